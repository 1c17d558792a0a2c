/-
  pax.Record; 'recorded'.
-/
import Derived.Test.YtjafjhhmjfpmoaaDoorPaxE
import Derived.Test.YtjafjhhmjfpmoaaDoorPaxF
import Derived.Test.YtjafjhhmjfpmoaaDoorPaxG
namespace Go.Proofs.YtjafjhhmjfpmoaaDoor
open Go.RowKit

theorem record_any (k v : ByteArray) (hr : Px.right (k.data.toList, v.data.toList) = true) (w : World) (hE : Env w) :
    Calls Tryd.prog 14 #[prv k v] w fun e w' => e = .returned (.tuple #[.string (bs (Px.text (k.data.toList, v.data.toList))), .nilIface]) ∧ Below w.heap.size w w' := by
  obtain ⟨h1, h2, _, _⟩ := Px.right_bounds hr
  rw [list_size, list_size] at h2
  have rg := fun w' => right_any k v (by omega) (by omega) w'
  rw [hr] at rg
  have tx := fun w' (h : Below w.heap.size w w') => text_any k v hr w' (hE.below h)
  obtain ⟨T, hT⟩ : ∃ T, T = bs (Px.text (k.data.toList, v.data.toList)) := ⟨_, rfl⟩
  rw [← hT] at tx ⊢
  unfold prv at *
  have RG := Lib.hid rg
  have TX := Lib.hid tx
  clear rg tx hT hr h1 h2 hE
  go_enter Tryd.func14, Tryd.ntmps14
  go_wp2_with fail
  have z := Blk.new w 32 #[.string k, .string v]
  have lz : w.heap.size < (w.alloc (.cells #[.string k, .string v] 32)).heap.size := by simp
  have B1 := Lib.hid ((Below.refl _ w).alloc (Nat.le_refl _) (.cells #[.string k, .string v] 32))
  refine (RG.out _).mono ?_
  rintro e w2 ⟨rfl, h2⟩
  have z2 := z.below h2 lz
  have c0 := z2.cell 0
  have c1 := z2.cell 1
  have B2 := Lib.hid (thenB B1.out h2)
  clear h2 z z2
  go_wp2_with fail
  refine (TX.out _ B2.out).mono ?_
  rintro e w3 ⟨rfl, h3⟩
  have B3 := Lib.hid (thenB B2.out h3)
  clear h3
  go_wp2_with fail
  go_ret2
  exact ⟨rfl, B3.out⟩

theorem fact_text : Px.text ([112, 97, 116, 104], [97]) = [57, 32, 112, 97, 116, 104, 61, 97, 10] := by
  have h : Px.tot ([112, 97, 116, 104], [97]) = 9 := by decide
  unfold Px.text
  rw [h, Lib.decDigits_one (by decide)]; rfl
theorem fact_text2 : Px.text ([97], [49, 50, 51, 52]) = [57, 32, 97, 61, 49, 50, 51, 52, 10] := by
  have h : Px.tot ([97], [49, 50, 51, 52]) = 9 := by decide
  unfold Px.text
  rw [h, Lib.decDigits_one (by decide)]; rfl
theorem fact_read : Px.read [57, 32, 97, 61, 49, 50, 51, 52, 10] = some [([97], [49, 50, 51, 52])] := by
  rw [Px.read_iff]
  refine ⟨fun r hr => ?_, ?_, by decide⟩
  · rw [List.mem_singleton.1 hr]; decide
  · show _ = Px.text ([97], [49, 50, 51, 52]) ++ []
    rw [fact_text2]; rfl

/-- Read at a text whose records are known. -/
theorem read_some (s : ByteArray) (hs : s.size ≤ 100000) (l : List Px.Rec) (h : Px.read s.data.toList = some l) (w : World) (hE : Env w) :
    Calls Tryd.prog 9 #[.string s] w fun e w' => ∃ v, e = .returned (.tuple #[v, .nilIface]) ∧ HasR w' w.heap.size v l ∧ Below w.heap.size w w' := by
  refine (read_any s hs w hE).mono fun e w' hp => ?_
  unfold ReadPost at hp
  rw [h] at hp
  exact hp
theorem read_none (s : ByteArray) (hs : s.size ≤ 100000) (h : Px.read s.data.toList = none) (w : World) (hE : Env w) :
    Calls Tryd.prog 9 #[.string s] w fun e w' => ∃ T N, e = .returned (.tuple #[.slice none 0 0, .iface T (.pointer (some ⟨N, 0, none⟩))]) ∧ Below w.heap.size w w' := by
  refine (read_any s hs w hE).mono fun e w' hp => ?_
  unfold ReadPost at hp
  rw [h] at hp
  exact hp

set_option maxRecDepth 100000 in
set_option maxHeartbeats 1000000 in
theorem recorded_any (w : World) (hE : Env w) : Calls Tryd.prog 8 #[] w fun e w' => e = .returned (.bool true) ∧ Below w.heap.size w w' := by
  have r1 := fun w' (h : Below w.heap.size w w') => record_any ⟨#[112, 97, 116, 104]⟩ ⟨#[97]⟩ (by decide) w' (hE.below h)
  have e1 : bs (Px.text ((⟨#[112, 97, 116, 104]⟩ : ByteArray).data.toList, (⟨#[97]⟩ : ByteArray).data.toList)) = ⟨#[57, 32, 112, 97, 116, 104, 61, 97, 10]⟩ := by
    show bs (Px.text ([112, 97, 116, 104], [97])) = _
    rw [fact_text]; rfl
  rw [e1] at r1
  unfold prv at r1
  have r2 := fun w' (h : Below w.heap.size w w') => read_some ⟨#[57, 32, 97, 61, 49, 50, 51, 52, 10]⟩ (by decide) _ fact_read w' (hE.below h)
  have R1 := Lib.hid r1
  have R2 := Lib.hid r2
  clear r1 r2 e1 hE
  go_enter Tryd.func8, Tryd.ntmps8
  go_wp2_with fail
  go_outline
  refine (R1.out _ (Below.refl _ _)).mono ?_
  rintro e w1 ⟨rfl, h1⟩
  have B1 := Lib.hid h1
  clear h1
  go_wp2_with fail
  refine (R2.out _ B1.out).mono ?_
  rintro e w2 ⟨v, rfl, hv, h2⟩
  have B2 := Lib.hid (thenB B1.out h2)
  rcases hv.ways with ⟨_, h0⟩ | ⟨g, cap, rfl, _, hg, _, hr⟩
  · cases h0
  obtain ⟨c0, c1⟩ := hr 0 (by decide)
  have d0 : w2.cell? ⟨g, 0, none⟩ = some (.string ⟨#[97]⟩) := c0
  have d1 : w2.cell? ⟨g, 1, none⟩ = some (.string ⟨#[49, 50, 51, 52]⟩) := c1
  clear h2 hv hr c0 c1
  go_wp2_with fail
  go_outline
  go_ret
  exact ⟨rfl, B2.out⟩

end Go.Proofs.YtjafjhhmjfpmoaaDoor
