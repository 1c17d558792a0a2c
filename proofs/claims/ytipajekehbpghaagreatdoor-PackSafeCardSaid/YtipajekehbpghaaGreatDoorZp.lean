/-
  A list of members as an argument.
-/
import Derived.Test.YtipajekehbpghaaGreatDoorZn
import Derived.Test.YtipajekehbpghaaGreatDoorZf
import Derived.Deep.RegionHeld3
import Derived.BigRegion
set_option linter.unusedVariables false
set_option linter.unusedSimpArgs false

namespace Go.Proofs.YtipajekehbpghaaGreatDoor
open Go.RowKit Go.Maps Tre Pk

instance : Inhabited Ent := ⟨⟨[], 0, 0, 0, 0, 0, 0, 0, [], [], [], 0, 0, [], []⟩⟩
/-- A slice of members that came in. -/
structure Ents (W : World) (v : Value) (ps : List (Ent × Value)) : Prop where
  at_ : EntsAt W v ps
  len : ps.length ≤ 1000000000000
  came : ∀ p ∈ ps, Came W p.1 p.2
theorem Ents.below {W W' : World} {v : Value} {ps : List (Ent × Value)} (h : Ents W v ps) (hb : Below W.heap.size W W') : Ents W' v ps :=
  ⟨h.at_.below hb, h.len, fun p hp => (h.came p hp).below hb⟩

set_option maxRecDepth 100000 in
theorem ents_of {H : Type} {enc : TypeId × Value → H} {W : World} {v : Value} {d : DataW H} {ps : List MemPlace} {base : Nat} (hok : Value.okWide Tryz.prog W .any base 26 v)
    (h : DataW.Trod enc Tryz.prog W 0 (fun _ => true) true 26 v d ps) (hz : ∀ n ∈ d.weights Tryz.prog 26, n ≤ reachBytes) : ∃ l, Ents W v l := by
  obtain ⟨a0, len, cap, rfl⟩ := WideShapes.okWide_slice Tryz.underlying26 hok
  obtain ⟨fuel, hf⟩ := h
  rcases Deep.open_slice Tryz.underlying26 hf with ⟨hcs, _⟩ | ⟨a, len', cap', m, n, D, Pl, hcs, _, hl, hcm, hm, hx, hi⟩
  · obtain ⟨rfl, rfl, rfl⟩ : a0 = none ∧ len = 0 ∧ cap = 0 := by simpa [Value.cells] using hcs
    exact ⟨[], ⟨⟨none, 0, rfl, Nat.le_refl _, .inl rfl⟩, fun r hr => (by cases hr)⟩, by simp, fun r hr => (by cases hr)⟩
  · obtain ⟨rfl, rfl, rfl⟩ : a0 = some a ∧ len = len' ∧ cap = cap' := by simpa [Value.cells] using hcs
    have hm' : m = cap := by simpa using hm
    subst hm'
    obtain ⟨hxd, _⟩ := Prod.mk.inj hx
    have hw := hz
    rw [hxd] at hw
    simp only [DataW.weights, Tryz.underlying26] at hw
    have hlen : (len + (m - len)) * Tryz.prog.bytesOf 40 ≤ reachBytes := by
      have := hw _ (List.mem_cons_self ..)
      simpa using this
    have hb32 : Tryz.prog.bytesOf 40 = 176 := by kernel_rfl
    rw [hb32] at hlen
    unfold reachBytes at hlen
    obtain ⟨f, hf2⟩ := Deep.choose_lt (α := Ent × Value) (p := fun i x => (W.cells? 0 (a.add (i * 15)) 15 = some (evc x.1 x.2).toList) ∧ (i < len → Came W x.1 x.2)) (n := m) (fun i hi' => by
      obtain ⟨cs', hc, ht⟩ := hi i hi'
      rw [ft_ent] at hc
      by_cases hil : i < len
      · have hel : D i ∈ (List.range len).map D := List.mem_map.2 ⟨i, List.mem_range.2 hil, rfl⟩
        obtain ⟨e, mv, rfl, hcm⟩ := came_of ht (fun n hn => hw n (List.mem_cons_of_mem _ (List.mem_append_left _ (weightsAll_mem hel hn))))
        exact ⟨(e, mv), hc, fun _ => hcm⟩
      · obtain ⟨e, mv, md, rfl, _⟩ := ent_of ht
        exact ⟨(e, mv), hc, fun hh => absurd hh hil⟩)
    have hcm2 : ∀ p ∈ (List.range len).map f, Came W p.1 p.2 := fun p hp => by
      obtain ⟨i, hi', rfl⟩ := List.mem_map.1 hp
      have hil := List.mem_range.1 hi'
      exact (hf2 i (by omega)).2 hil
    refine ⟨(List.range len).map f, ⟨⟨some a, m, by simp, by simpa using hl, ?_⟩, fun p hp => (hcm2 p hp).pcs⟩, by simp; omega, hcm2⟩
    by_cases h0 : len = 0
    · subst h0; exact .inl rfl
    · right
      have hat : ∀ j, j < m → ∀ k, k < 15 → W.cell? ((a.add (j * 15)).add k) = (evc (f j).1 (f j).2)[k]? := fun j hj k hk => by
        obtain ⟨_, _, hcl⟩ := World.cells?_some (hf2 j hj).1
        rw [hcl k hk]; simp
      obtain ⟨b, off, spot⟩ := a
      have hspot : spot = none := by
        have := hat 0 (by omega) 0 (by omega)
        simp only [Nat.zero_mul] at this
        have h2 : W.cell? ((⟨b, off, spot⟩ : Addr).add 0 |>.add 0) = some (.string (bs (f 0).1.name)) := this
        simpa [Addr.add] using World.cell?_spot h2
      subst hspot
      have h00 := hat 0 (by omega) 0 (by omega)
      rw [WideShapes.add_plain, WideShapes.add_plain] at h00
      refine ⟨b, off, rfl, World.block_lt_of_cell? W ⟨b, off + 0 * 15 + 0, none⟩ (u := .string (bs (f 0).1.name)) h00, fun j hj k hk => ?_⟩
      have hj' : j < len := by simpa using hj
      have := hat j (by omega) k hk
      rw [WideShapes.add_plain, WideShapes.add_plain] at this
      rw [this]
      simp

end Go.Proofs.YtipajekehbpghaaGreatDoor

/-
  lots: members that are too many or too large to be looked at.
-/
namespace Go.Proofs.YtipajekehbpghaaGreatDoor
open Go.RowKit Go.Maps Tre Pk

/-- Too many, or too large. -/
def lotsE (l : List Ent) : Bool := decide (20 < l.length) || l.any largeE

set_option maxRecDepth 100000 in
set_option maxHeartbeats 4000000 in
theorem index_ents (ps : List (Ent × Value)) (b off c : Nat) (w : World) (hb : b < w.heap.size) (hrow : RowE w b off ps) (hl : ps.length ≤ 1000000) (hf : ∀ p ∈ ps, Came w p.1 p.2) :
    Calls Tryz.prog 124 #[.slice (some ⟨b, off, none⟩) ps.length c, .func (.func 20) #[] #[]] w fun e w' => ∃ i : Int, e = .returned (.int .i64 i) ∧ decide (0 ≤ i) = (ps.map Prod.fst).any largeE ∧ Below w.heap.size w w' := by
  have R := Lib.hid hrow
  have HF := Lib.hid hf
  have hli : (ps.length : Int) ≤ 1000000 := by omega
  clear hrow hf
  go_enter Tryz.func124, Tryz.ntmps124
  go_wp2_with fail
  go_loopg [5, 8] (ps.length) (fun gg _ iv wr => ∃ i : Nat, iv = .int .i64 i ∧ i ≤ ps.length ∧ gg = ps.length - i ∧ Hid (Below w.heap.size w wr) ∧ Hid (∀ x ∈ ps.take i, largeE x.1 = false))
  case atStart => exact ⟨0, rfl, by omega, by omega, Lib.hid (Below.refl _ _), Lib.hid (by simp)⟩
  case round =>
    obtain ⟨i, rfl, hi, hg, HW, HN⟩ := hrel
    have HG := Lib.hid hg
    clear hg
    by_cases hil : i < ps.length
    · have hii : (i : Int) < ps.length := by omega
      have rw_ := R.out.below HW.out hb
      have hts : ps.take (i + 1) = ps.take i ++ [ps[i]] := List.take_succ_eq_append_getElem hil
      have hmem : ps[i] ∈ ps := List.getElem_mem hil
      have PP := Lib.hid (fun w' (hb : Below w.heap.size w w') => large_any ps[i].1 ps[i].2 w' ((HF.out ps[i] hmem).below hb))
      have hcell := rw_ i hil
      obtain ⟨x, hx⟩ : ∃ x, x = ps[i] := ⟨_, rfl⟩
      rw [← hx] at hcell PP hts hmem
      have HTS := Lib.hid hts
      have HME := Lib.hid hmem
      obtain ⟨r, hr⟩ : ∃ r, r = largeE x.1 := ⟨_, rfl⟩
      rw [← hr] at PP
      have HR := Lib.hid hr
      have d0 : wr.cell? ⟨b, off + i * 15, none⟩ = some (.string (bs x.1.name)) := hcell 0 (by omega)
      have d1 : wr.cell? ⟨b, off + i * 15 + 1, none⟩ = some (.int .u8 x.1.kind) := hcell 1 (by omega)
      have d2 : wr.cell? ⟨b, off + i * 15 + 2, none⟩ = some (.int .i64 x.1.mode) := hcell 2 (by omega)
      have d3 : wr.cell? ⟨b, off + i * 15 + 3, none⟩ = some (.int .i64 x.1.uid) := hcell 3 (by omega)
      have d4 : wr.cell? ⟨b, off + i * 15 + 4, none⟩ = some (.int .i64 x.1.gid) := hcell 4 (by omega)
      have d5 : wr.cell? ⟨b, off + i * 15 + 5, none⟩ = some (.int .i64 x.1.size) := hcell 5 (by omega)
      have d6 : wr.cell? ⟨b, off + i * 15 + 6, none⟩ = some (.int .i64 x.1.sec) := hcell 6 (by omega)
      have d7 : wr.cell? ⟨b, off + i * 15 + 7, none⟩ = some (.int .i64 x.1.nano) := hcell 7 (by omega)
      have d8 : wr.cell? ⟨b, off + i * 15 + 8, none⟩ = some (.string (bs x.1.link)) := hcell 8 (by omega)
      have d9 : wr.cell? ⟨b, off + i * 15 + 9, none⟩ = some (.string (bs x.1.user)) := hcell 9 (by omega)
      have d10 : wr.cell? ⟨b, off + i * 15 + 10, none⟩ = some (.string (bs x.1.group)) := hcell 10 (by omega)
      have d11 : wr.cell? ⟨b, off + i * 15 + 11, none⟩ = some (.int .i64 x.1.major) := hcell 11 (by omega)
      have d12 : wr.cell? ⟨b, off + i * 15 + 12, none⟩ = some (.int .i64 x.1.minor) := hcell 12 (by omega)
      have d13 : wr.cell? ⟨b, off + i * 15 + 13, none⟩ = some (.string (bs x.1.data)) := hcell 13 (by omega)
      have d14 : wr.cell? ⟨b, off + i * 15 + 14, none⟩ = some x.2 := hcell 14 (by omega)
      unfold ev evc at PP
      clear rw_ hcell hx hts hmem hr
      go_wp2_with fail
      refine (PP.out _ HW.out).mono ?_
      rintro e w1 ⟨rfl, h1⟩
      have B1 := Lib.hid (thenB HW.out h1)
      clear h1
      cases r
      · go_wp2_with fail
        go_roundg (ps.length - (i + 1))
        case measure => have := HG.out; omega
        case rel => exact ⟨i + 1, by go_num, by omega, rfl, B1, Lib.hid (fun y hy => by
          rw [HTS.out] at hy
          rcases List.mem_append.1 hy with hy | hy
          · exact HN.out y hy
          · rw [List.mem_singleton.1 hy]; exact HR.out.symm)⟩
      · go_wp2_with fail
        go_ret
        refine ⟨_, rfl, ?_, B1.out⟩
        rw [List.any_eq_true.2 ⟨x.1, List.mem_map_of_mem HME.out, HR.out.symm⟩]
        exact decide_eq_true (by omega)
    · have hii : (ps.length : Int) ≤ i := by omega
      go_wp2_with fail
      go_ret
      refine ⟨_, rfl, ?_, HW.out⟩
      have h := HN.out
      rw [List.take_of_length_le (by omega)] at h
      rw [List.any_eq_false.2 (fun x hx => by obtain ⟨y, hy, rfl⟩ := List.mem_map.1 hx; rw [h y hy]; simp)]
      rfl
theorem indexE_none (X : Option Addr) (c : Nat) (fv : Value) (w : World) : Calls Tryz.prog 124 #[.slice X 0 c, fv] w fun e w' => e = .returned (.int .i64 (-1)) ∧ Below w.heap.size w w' := by
  go_enter Tryz.func124, Tryz.ntmps124
  go_wp2_with fail
  refine wp_loop_rounds 1 ?_
  rw [rounds_succ]
  go_wp2_with fail
  go_ret
  exact ⟨rfl, Below.refl _ _⟩
theorem contains_ents {w : World} {v : Value} {ps : List (Ent × Value)} (h : Ents w v ps) (hl : ps.length ≤ 1000000) :
    Calls Tryz.prog 92 #[v, .func (.func 20) #[] #[]] w fun e w' => e = .returned (.bool ((ps.map Prod.fst).any largeE)) ∧ Below w.heap.size w w' := by
  obtain ⟨⟨⟨X, cap, rfl, hc, h4⟩, _⟩, _, hf⟩ := h
  have hi : Calls Tryz.prog 124 #[.slice X ps.length cap, .func (.func 20) #[] #[]] w fun e w' => ∃ i : Int, e = .returned (.int .i64 i) ∧ decide (0 ≤ i) = (ps.map Prod.fst).any largeE ∧ Below w.heap.size w w' := by
    rcases h4 with rfl | ⟨b, off, rfl, hb, hr⟩
    · exact (indexE_none X cap _ w).mono fun e w' ⟨he, hb⟩ => ⟨-1, he, rfl, hb⟩
    · exact index_ents ps b off cap w hb hr hl hf
  have HI := Lib.hid hi
  obtain ⟨r, hr⟩ : ∃ r, r = (ps.map Prod.fst).any largeE := ⟨_, rfl⟩
  rw [← hr] at HI ⊢
  clear hi hr h4 hf
  go_enter Tryz.func92, Tryz.ntmps92
  go_wp2_with fail
  refine HI.out.mono ?_
  rintro e w1 ⟨i, rfl, hd, h1⟩
  have B1 := Lib.hid h1
  clear h1
  go_wp2_with fail
  go_ret
  exact ⟨rfl, B1.out⟩
theorem lots_any {w : World} {v : Value} {ps : List (Ent × Value)} (h : Ents w v ps) : Calls Tryz.prog 47 #[v] w fun e w' => e = .returned (.bool (lotsE (ps.map Prod.fst))) ∧ Below w.heap.size w w' := by
  obtain ⟨X, cap, hv, hc, _⟩ := h.at_.row
  have hlen := h.len
  have hli : (ps.length : Int) ≤ 1000000000000 := by omega
  by_cases h20 : 20 < ps.length
  · have e : lotsE (ps.map Prod.fst) = true := by unfold lotsE; simp [h20]
    rw [e, hv]
    have k : (20 : Int) < ps.length := by omega
    clear e hv h
    go_enter Tryz.func47, Tryz.ntmps47
    go_wp2_with fail
    go_ret
    exact ⟨rfl, Below.refl _ _⟩
  · have e : lotsE (ps.map Prod.fst) = (ps.map Prod.fst).any largeE := by unfold lotsE; simp [h20]
    have CT := Lib.hid (contains_ents h (by omega))
    rw [e]
    obtain ⟨r, hr⟩ : ∃ r, r = (ps.map Prod.fst).any largeE := ⟨_, rfl⟩
    rw [← hr] at CT ⊢
    have k : ¬ (20 : Int) < ps.length := by omega
    rw [hv] at CT ⊢
    clear e hv h hr
    go_enter Tryz.func47, Tryz.ntmps47
    go_wp2_with fail
    refine CT.out.mono ?_
    rintro e w1 ⟨rfl, h1⟩
    have B1 := Lib.hid h1
    clear h1
    go_wp2_with fail
    go_ret
    exact ⟨rfl, B1.out⟩
theorem lots_no {l : List Ent} (h : lotsE l = false) : l.length ≤ 20 ∧ ∀ e ∈ l, largeE e = false := by
  unfold lotsE at h
  simp only [Bool.or_eq_false_iff, decide_eq_false_iff_not, List.any_eq_false] at h
  exact ⟨by omega, fun e he => by have := h.2 e he; simpa using this⟩

end Go.Proofs.YtipajekehbpghaaGreatDoor

/-
  slices.IsSortedFunc at names that are in their order.
-/
namespace Go.Proofs.YtipajekehbpghaaGreatDoor
open Go.RowKit Go.Maps Tre

theorem keep2 {w w' : World} {b i j : Nat} {u v : Value} (hb : b < w.heap.size) (h1 : w.cell? ⟨b, i, none⟩ = some u) (h2 : w.cell? ⟨b, j, none⟩ = some v) (h : Below w.heap.size w w') :
    w'.cell? ⟨b, i, none⟩ = some u ∧ w'.cell? ⟨b, j, none⟩ = some v ∧ Below w.heap.size w w' :=
  ⟨(h.cell (p := ⟨b, i, none⟩) hb).trans h1, (h.cell (p := ⟨b, j, none⟩) hb).trans h2, h⟩

set_option maxRecDepth 100000 in
set_option maxHeartbeats 4000000 in
theorem sorted_names {w : World} {B : Nat} {v : Value} {l : List Pth.Bs} (h : HasS w B v l) (hl : l.length ≤ 60) (hm : ML w) (hz : ∀ s ∈ l, s.length ≤ 1000) (hs : l.Pairwise fun a b => Pth.cmp (Pth.parts a) (Pth.parts b) ≤ 0) :
    Calls Tryz.prog 96 #[v, .func (.func 39) #[] #[]] w fun e w' => e = .returned (.bool true) ∧ Below w.heap.size w w' := by
  rcases h.ways with ⟨A, c3, rfl, rfl⟩ | ⟨b, off, c3, rfl, _, _, hb, hpos, hrow⟩
  · go_enter Tryz.func96, Tryz.ntmps96
    go_wp2_with fail
    refine wp_loop_rounds 1 ?_
    rw [rounds_succ]
    go_wp2_with fail
    go_ret
    exact ⟨rfl, Below.refl _ _⟩
  · have HR := Lib.hid hrow
    have HS := Lib.hid hs
    have HZ := Lib.hid hz
    have HM := Lib.hid hm
    have hli : (l.length : Int) ≤ 60 := by omega
    clear hrow hs hz hm h
    go_enter Tryz.func96, Tryz.ntmps96
    go_wp2_with fail
    go_loopg [5] (l.length) (fun gg iv wr => ∃ i : Int, iv = .int .i64 i ∧ i < l.length ∧ -1 ≤ i ∧ gg = (i + 1).toNat ∧ Below w.heap.size w wr)
    case atStart => exact ⟨(l.length : Int) - 1, by go_num, by omega, by omega, by omega, Below.refl _ _⟩
    case round =>
      obtain ⟨i, rfl, hi, hi1, hgg, hbw⟩ := hrel
      have HG := Lib.hid hgg
      have HW := Lib.hid hbw
      clear hgg hbw
      by_cases h0 : 0 < i
      · obtain ⟨k, hk⟩ : ∃ k : Nat, i = (k : Int) + 1 := ⟨(i - 1).toNat, by omega⟩
        have hk1 : k + 1 < l.length := by omega
        have a0 := HR.out (k + 1) hk1
        have b0 := HR.out k (by omega)
        have hcmp : ¬ Pth.cmp (Pth.parts l[k + 1]) (Pth.parts l[k]) < 0 := fun hc => by
          have h2 := List.pairwise_iff_getElem.1 HS.out k (k + 1) (by omega) hk1 (by omega)
          have h3 := (Pth.cmp_anti _ _).1 hc
          omega
        have hzx := HZ.out l[k + 1] (List.getElem_mem hk1)
        have hzy := HZ.out l[k] (List.getElem_mem (by omega))
        obtain ⟨x, hx⟩ : ∃ x, x = l[k + 1] := ⟨_, rfl⟩
        obtain ⟨y, hy⟩ : ∃ y, y = l[k] := ⟨_, rfl⟩
        rw [← hx] at a0 hcmp hzx
        rw [← hy] at b0 hcmp hzy
        have c0 : wr.cell? ⟨b, off + (k + 1), none⟩ = some (.string (bs x)) := (HW.out.cell (p := ⟨b, off + (k + 1), none⟩) hb).trans a0
        have d0 : wr.cell? ⟨b, off + k, none⟩ = some (.string (bs y)) := (HW.out.cell (p := ⟨b, off + k, none⟩) hb).trans b0
        have CM := Lib.hid (fun w' (h : Below wr.heap.size wr w') => order_any (bs x) (bs y) w' (by rw [bs_size]; omega) (by rw [bs_size]; omega) (HM.out.below (HW.out.trans (h.mono HW.out.size))))
        rw [bs_list, bs_list] at CM
        obtain ⟨C, hC⟩ : ∃ C, C = Pth.cmp (Pth.parts x) (Pth.parts y) := ⟨_, rfl⟩
        rw [← hC] at CM hcmp
        have n1 : i.toNat = k + 1 := by omega
        have n2 : (i - 1).toNat = k := by omega
        have n3 : 0 ≤ C := by omega
        have n4 : decide (C < 0) = false := decide_eq_false (by omega)
        have m1 : (0 : Int) ≤ i - 1 := by omega
        have m2 : i - 1 < (l.length : Int) := by omega
        have m4 : (0 : Int) ≤ i := by omega
        have m5 : i ≤ 1000000 := by omega
        have m6 : 1 ≤ i := by omega
        have m9 : IntKind.i64.wrap (i - 1) = i - 1 := IntWalk.i64_in _ (by omega)
        have m7 : i ≤ (l.length : Int) := by omega
        have m8 : i < (l.length : Int) + 1 := by omega
        have KI := Lib.hid hk
        have bw := Below.refl wr.heap.size wr
        have hbr : b < wr.heap.size := Nat.lt_of_lt_of_le hb HW.out.size
        have KP := Lib.hid (fun w' (h : Below wr.heap.size wr w') => keep2 hbr c0 d0 h)
        clear a0 b0 hx hy hC hk
        go_wp2_with fail
        go_region_held3 (fun w' => w'.cell? ⟨b, off + (k + 1), none⟩ = some (.string (bs x)) ∧ w'.cell? ⟨b, off + k, none⟩ = some (.string (bs y)) ∧ Below wr.heap.size wr w')
          (first | (go_split_ands; refine KP.out _ ?_; first | with_reducible assumption | with_reducible exact Below.drew bw | with_reducible exact thenB (by assumption) TT))
          (first | (go_at_call 39; go_split_ands; refine (CM.out _ (by with_reducible assumption)).mono ?_; rintro e wt ⟨rfl, TT⟩; have TB : Below wr.heap.size wr wt := (by with_reducible exact thenB (by assumption) TT)))
        all_goals go_wp2_with fail
        all_goals go_roundg (k + 1)
        case measure => have := HG.out; have := KI.out; omega
        case rel => exact ⟨i - 1, by go_num, by omega, by omega, by have := KI.out; omega, HW.out.trans (TB.mono HW.out.size)⟩
      · have h0' : i ≤ 0 := by omega
        go_wp2_with fail
        go_ret
        exact ⟨rfl, HW.out⟩

end Go.Proofs.YtipajekehbpghaaGreatDoor

/-
  standing: whether each name of a tree lies in a directory and is valid; whether the names are in order.
-/
namespace Go.Proofs.YtipajekehbpghaaGreatDoor
open Go.RowKit Go.Maps Tre

theorem rightN_len {n : Nd} (h : rightN n = true) : n.kind ≤ 255 ∧ n.link.length ≤ 120 ∧ n.data.length ≤ 4000 := by
  unfold rightN inR at h
  simp only [Bool.and_eq_true, decide_eq_true_eq] at h
  obtain ⟨⟨⟨⟨⟨h0, _⟩, _⟩, ⟨_, hl⟩, _⟩, _⟩, hd⟩ := h
  refine ⟨by omega, hl, ?_⟩
  split at hd
  · simpa using hd
  · have : n.data = [] := by simpa using hd
    rw [this]; exact Nat.zero_le _

set_option maxRecDepth 100000 in
set_option maxHeartbeats 8000000 in
theorem standing_any {w : World} {g : Nat} {on of : Option Nat} {t : T} (h : TreeAt w g on of t) (ht : Std t) (hx : t.nx ≤ 100000) (hm : ML w) :
    Calls Tryz.prog 48 #[.pointer (some ⟨g, 0, none⟩)] w fun e w' => e = .returned (.bool true) ∧ Below w.heap.size w w' := by
  have NM := Lib.hid (fun w' (hb : Below w.heap.size w w') => names_any (h.below hb) ht (hm.below hb))
  have HM := Lib.hid hm
  have HT := Lib.hid h
  have HS := Lib.hid ht
  have hln : t.names.length ≤ 60 := by rw [names_len]; exact ht.cn
  have HNAME := Lib.hid (fun (s : Pth.Bs) (h : s ∈ t.names) => ht.name h)
  have HDIR := Lib.hid (fun (s : Pth.Bs) (h : s ∈ t.names) => ht.dir h)
  have hnn : ∀ s k, Tre.look t.ents s = some k → k ≤ 1000000 := fun s k h => by have := (ht.short h).2; omega
  have HNN := Lib.hid hnn
  have SO := Lib.hid (fun w' B v (hv : HasS w' B v t.names) (hb : Below w.heap.size w w') => sorted_names hv hln (hm.below hb) (fun s hs => by obtain ⟨k, _, hr, _⟩ := ht.name hs; have := (right_len hr).1; omega) (names_sorted t))
  clear h ht hm hnn
  go_enter Tryz.func48, Tryz.ntmps48
  go_wp2_with fail
  refine (NM.out _ (Below.refl _ _)).mono ?_
  rintro e w3 ⟨v3, rfl, hv, h3⟩
  have B3 := Lib.hid h3
  have hs := hv.has
  clear hv h3
  rcases hs.ways with ⟨A, c3, rfl, h0⟩ | ⟨b, off, c3, rfl, _, _, hb3, hpos, hrow⟩
  · clear hs h0
    go_wp2_with fail
    refine wp_loop_rounds 1 ?_
    rw [rounds_succ]
    go_wp2_with fail
    refine (NM.out _ B3.out).mono ?_
    rintro e w4 ⟨v4, rfl, hv, h4⟩
    have B4 := Lib.hid (thenB B3.out h4)
    have V4 := Lib.hid hv.has
    clear hv h4
    go_wp2_with fail
    refine (SO.out _ _ _ V4.out B4.out).mono ?_
    rintro e w5 ⟨rfl, h5⟩
    go_wp2_with fail
    go_ret
    exact ⟨rfl, thenB B4.out h5⟩
  have HR := Lib.hid hrow
  obtain ⟨L, hL⟩ : ∃ L, L = t.names := ⟨_, rfl⟩
  rw [← hL] at HR HNAME HDIR hln hpos
  have hln2 : t.names.length = L.length := by rw [hL]
  rw [hln2]
  have hli : (L.length : Int) ≤ 60 := by omega
  clear hs hrow hL hln2
  go_wp2_with fail
  go_loopg [14] (L.length) (fun gg iv wr => ∃ k : Nat, iv = .int .i64 k ∧ k ≤ L.length ∧ k + gg = L.length ∧ Below w3.heap.size w3 wr)
  case atStart => exact ⟨0, rfl, Nat.zero_le _, by omega, Below.refl _ _⟩
  case round =>
    obtain ⟨k, rfl, hk, hgg, hbw⟩ := hrel
    have HW := Lib.hid hbw
    have BW := Lib.hid (thenB B3.out hbw)
    have HG := Lib.hid hgg
    clear hgg hbw
    by_cases hlt : k < L.length
    · have c0 : wr.cell? ⟨b, off + k, none⟩ = some (.string (bs L[k])) := (HW.out.cell (p := ⟨b, off + k, none⟩) hb3).trans (HR.out k hlt)
      have hmem : L[k] ∈ L := List.getElem_mem hlt
      obtain ⟨s, hs⟩ : ∃ s, s = L[k] := ⟨_, rfl⟩
      rw [← hs] at c0 hmem
      obtain ⟨ks, hks, hsr, hsn, hsl⟩ := HNAME.out s hmem
      have hdr := HDIR.out s hmem
      have hslen := (right_len hsr).1
      have hl3 := rightN_len hsn
      have GB := Lib.hid (fun w' (hb : Below wr.heap.size wr w') => get_any ((HT.out.below BW.out).below hb) (bs s) (fun k hk => HNN.out _ k hk) (by rw [bs_size]; omega))
      have hgv : getV t (bs s).data.toList = .tuple #[ndv (t.file ks), .nilIface] := getV_of (by rw [bs_list]; exact hks)
      rw [hgv] at GB
      have RT := Lib.hid (fun w' (hb : Below wr.heap.size wr w') => right_any (bs s) w' (by rw [bs_size]; omega) ((HM.out.below BW.out).below hb))
      rw [bs_list, hsr] at RT
      have LK := Lib.hid (fun w' (hb : Below wr.heap.size wr w') => links_any ((HT.out.below BW.out).below hb) HS.out (bs s) (by rw [bs_size]; omega))
      rw [bs_list] at LK
      obtain ⟨hcl, hn0⟩ := right_cl hsr
      have hj := right_join hsr
      have UP := Lib.hid (fun w' => up_parts hcl hn0 (by rw [hj]; omega) w')
      rw [hj] at UP
      obtain ⟨D, hD⟩ : ∃ D, D = Pth.join (Pth.parts s).dropLast := ⟨_, rfl⟩
      rw [← hD] at UP hdr
      have hDl : D.length ≤ 120 := by
        rw [hD]
        have := pre_length (Pth.parts s) ((Pth.parts s).length - 1)
        unfold pre at this
        rw [← List.dropLast_eq_take, hj] at this
        omega
      have TR := Lib.hid (fun w' => treeRight_any (t.file ks) hl3.1 (by omega) (by omega) w')
      rw [hsn] at TR
      obtain ⟨n, hn⟩ : ∃ n, n = t.file ks := ⟨_, rfl⟩
      rw [← hn] at GB TR
      obtain ⟨m0, m1, m2, m3, m4, m5, m6, m7, m8, m9⟩ := n
      unfold ndv ndc at GB TR
      simp only at GB TR
      obtain ⟨q, hq⟩ : ∃ q, q = t.links s := ⟨_, rfl⟩
      rw [← hq] at LK hsl
      have hqi : ¬ (q : Int) < 1 := by omega
      obtain ⟨z, hz⟩ : ∃ z, z = (Pth.parts s).getLast hn0 := ⟨_, rfl⟩
      rw [← hz] at UP
      clear hs hmem hks hsr hsn hcl hn0 hj hn hq hz hgv hl3 hD
      go_wp2_with fail
      refine (GB.out _ (Below.refl _ _)).mono ?_
      rintro e w4 ⟨rfl, h4⟩
      have B4 := Lib.hid h4
      have BK := Blk.new w4 33 #[.int .u8 m0, .int .i64 m1, .int .i64 m2, .int .i64 m3, .int .i64 m4, .int .i64 m5, .string (bs m6), .string (bs m7), .int .i64 m8, .int .i64 m9]
      have B5 := h4.alloc h4.size (.cells #[.int .u8 m0, .int .i64 m1, .int .i64 m2, .int .i64 m3, .int .i64 m4, .int .i64 m5, .string (bs m6), .string (bs m7), .int .i64 m8, .int .i64 m9] 33)
      have hp5 := BK.lt
      have BK5 := Lib.hid BK
      have BB5 := Lib.hid B5
      have HP5 := Lib.hid hp5
      clear h4 BK B5 hp5
      go_wp2_with fail
      refine (RT.out _ BB5.out).mono ?_
      rintro e w6 ⟨rfl, h6⟩
      have B6 := Lib.hid (thenB BB5.out h6)
      have BK6 := BK5.out.below h6 HP5.out
      have _d0 : w6.cell? ⟨w4.heap.size, 0, none⟩ = some (.int .u8 m0) := BK6.cell 0
      have _d1 : w6.cell? ⟨w4.heap.size, 1, none⟩ = some (.int .i64 m1) := BK6.cell 1
      have _d2 : w6.cell? ⟨w4.heap.size, 2, none⟩ = some (.int .i64 m2) := BK6.cell 2
      have _d3 : w6.cell? ⟨w4.heap.size, 3, none⟩ = some (.int .i64 m3) := BK6.cell 3
      have _d4 : w6.cell? ⟨w4.heap.size, 4, none⟩ = some (.int .i64 m4) := BK6.cell 4
      have _d5 : w6.cell? ⟨w4.heap.size, 5, none⟩ = some (.int .i64 m5) := BK6.cell 5
      have _d6 : w6.cell? ⟨w4.heap.size, 6, none⟩ = some (.string (bs m6)) := BK6.cell 6
      have _d7 : w6.cell? ⟨w4.heap.size, 7, none⟩ = some (.string (bs m7)) := BK6.cell 7
      have _d8 : w6.cell? ⟨w4.heap.size, 8, none⟩ = some (.int .i64 m8) := BK6.cell 8
      have _d9 : w6.cell? ⟨w4.heap.size, 9, none⟩ = some (.int .i64 m9) := BK6.cell 9
      have _dl := BK6.lt
      clear h6 BK6
      go_wp2_with fail
      refine (TR.out _).mono ?_
      rintro e w7 ⟨rfl, h7⟩
      have B7 := Lib.hid (thenB B6.out h7)
      clear h7 _d0 _d1 _d2 _d3 _d4 _d5 _d6 _d7 _d8 _d9 _dl
      go_wp2_with fail
      refine (LK.out _ B7.out).mono ?_
      rintro e w8 ⟨rfl, h8⟩
      have B8 := Lib.hid (thenB B7.out h8)
      clear h8
      go_wp2_with fail
      refine (UP.out _).mono ?_
      rintro e w9 ⟨rfl, h9⟩
      have B9 := Lib.hid (thenB B8.out h9)
      clear h9
      by_cases h0 : D = []
      · have hdn : (bs D).toList = [] := (str_nil D).2 h0
        have hde : (bs D).toList.isEmpty = true := by rw [List.isEmpty_iff]; exact hdn
        clear hdr h0
        go_wp2_with fail
        go_roundg (L.length - (k + 1))
        case measure => have := HG.out; omega
        case rel => exact ⟨k + 1, by go_num, by omega, by omega, thenB HW.out B9.out⟩
      · have hdn : ¬ (bs D).toList = [] := fun e => h0 ((str_nil D).1 e)
        have hde : (bs D).toList.isEmpty = false := by rw [← Bool.not_eq_true, List.isEmpty_iff]; exact hdn
        obtain ⟨kd, hkd, hkk⟩ := hdr h0
        have GD := Lib.hid (fun w' (hb : Below wr.heap.size wr w') => get_any ((HT.out.below BW.out).below hb) (bs D) (fun k hk => HNN.out _ k hk) (by rw [bs_size]; omega))
        have hgv : getV t (bs D).data.toList = .tuple #[ndv (t.file kd), .nilIface] := getV_of (by rw [bs_list]; exact hkd)
        rw [hgv] at GD
        obtain ⟨n, hn⟩ : ∃ n, n = t.file kd := ⟨_, rfl⟩
        rw [← hn] at GD hkk
        obtain ⟨q0, q1, q2, q3, q4, q5, q6, q7, q8, q9⟩ := n
        simp only at hkk
        subst hkk
        unfold ndv ndc at GD
        simp only at GD
        clear hkd hn hgv h0 hdr
        go_wp2_with fail
        refine (GD.out _ B9.out).mono ?_
        rintro e w10 ⟨rfl, h10⟩
        have B10 := Lib.hid (thenB B9.out h10)
        have BK := (Blk.new w10 33 #[.int .u8 53, .int .i64 q1, .int .i64 q2, .int .i64 q3, .int .i64 q4, .int .i64 q5, .string (bs q6), .string (bs q7), .int .i64 q8, .int .i64 q9])
        have e0 := BK.cell 0
        simp only [List.getElem?_toArray, List.getElem?_cons_zero] at e0
        have B11 := Lib.hid (B10.out.alloc B10.out.size (.cells #[.int .u8 53, .int .i64 q1, .int .i64 q2, .int .i64 q3, .int .i64 q4, .int .i64 q5, .string (bs q6), .string (bs q7), .int .i64 q8, .int .i64 q9] 33))
        clear h10 BK
        go_wp2_with fail
        go_roundg (L.length - (k + 1))
        case measure => have := HG.out; omega
        case rel => exact ⟨k + 1, by go_num, by omega, by omega, thenB HW.out B11.out⟩
    · have hke : ¬ (k : Int) < L.length := by omega
      go_wp2_with fail
      refine (NM.out _ BW.out).mono ?_
      rintro e w4 ⟨v4, rfl, hv, h4⟩
      have B4 := Lib.hid (thenB BW.out h4)
      have V4 := Lib.hid hv.has
      clear hv h4
      go_wp2_with fail
      refine (SO.out _ _ _ V4.out B4.out).mono ?_
      rintro e w5 ⟨rfl, h5⟩
      go_wp2_with fail
      go_ret
      exact ⟨rfl, thenB B4.out h5⟩

end Go.Proofs.YtipajekehbpghaaGreatDoor
