/-
  What a change leaves; (*Tree).create.
-/
import Derived.Test.YtipajekehbpghaaGreatDoorZd
import Derived.Test.YtipajekehbpghaaGreatDoorZc
import Derived.BigRegion
import Derived.Deep.CutBlock
set_option linter.unusedVariables false
set_option linter.unusedSimpArgs false

namespace Go.Proofs.YtipajekehbpghaaGreatDoor
open Go.RowKit Go.Maps Tre

/-- An action's cells. -/
def dvc (x : Deed) : Array Value := #[.int .i64 x.what, .string (bs x.name), .string (bs x.to), .int .i64 x.n, .int .u8 x.node.kind, .int .i64 x.node.mode, .int .i64 x.node.uid, .int .i64 x.node.gid, .int .i64 x.node.sec, .int .i64 x.node.nano, .string (bs x.node.data), .string (bs x.node.link), .int .i64 x.node.major, .int .i64 x.node.minor]
def dv (x : Deed) : Value := .agg (dvc x)

/-- All but the blocks own is as it was. -/
structure Kept (O : List Nat) (w w' : World) : Prop where
  os : w'.os = w.os
  tape : w'.tape = w.tape
  output : w'.output = w.output
  size : w.heap.size ≤ w'.heap.size
  block : ∀ b, b < w.heap.size → b ∉ O → w'.heap[b]? = w.heap[b]?
section
variable {O : List Nat} {a b c : World}
theorem Kept.refl (O : List Nat) (a : World) : Kept O a a := ⟨rfl, rfl, rfl, Nat.le_refl _, fun _ _ _ => rfl⟩
theorem Kept.of_below (h : Below a.heap.size a b) : Kept O a b := ⟨h.os, h.tape, h.output, h.size, fun i hi _ => h.block i hi⟩
theorem Kept.trans (h : Kept O a b) (k : Kept O b c) : Kept O a c :=
  ⟨k.os.trans h.os, k.tape.trans h.tape, k.output.trans h.output, Nat.le_trans h.size k.size, fun i hi hn => (k.block i (Nat.lt_of_lt_of_le hi h.size) hn).trans (h.block i hi hn)⟩
theorem Kept.below (h : Kept O a b) (k : Below b.heap.size b c) : Kept O a c := h.trans (.of_below k)
theorem Kept.grown {g : Nat} (h : Kept O a b) (k : b.grownBy c (some g)) (hg : g ∈ O ∨ a.heap.size ≤ g) : Kept O a c :=
  ⟨k.os.trans h.os, k.tape.trans h.tape, k.output.trans h.output, Nat.le_trans h.size k.size, fun i hi hn => (k.block i (Nat.lt_of_lt_of_le hi h.size) (by
    intro e; injection e with e; subst e
    rcases hg with hg | hg
    · exact hn hg
    · omega)).trans (h.block i hi hn)⟩
theorem Kept.alloc (h : Kept O a b) (o : Obj) : Kept O a (b.alloc o) := h.below ((Below.refl _ _).alloc (Nat.le_refl _) _)
theorem Kept.drew (h : Kept O a b) : Kept O a b.drew := ⟨h.os, h.tape, h.output, h.size, h.block⟩
theorem Kept.setCell {p : Addr} (h : Kept O a b) (hp : p.block ∈ O ∨ a.heap.size ≤ p.block) (u : Value) : Kept O a (b.setCell p u) :=
  h.grown (only_setCell (only_refl b (some p.block)) (.inl rfl) u) hp
theorem Kept.down {B : Nat} (h : Kept O a b) (hO : ∀ x ∈ O, B ≤ x) (hB : B ≤ a.heap.size) : Below B a b :=
  ⟨h.os, h.tape, h.output, h.size, fun i hi => h.block i (by omega) fun hm => by have := hO i hm; omega⟩
end
/-- The tree t stands in block g behind a change that began at w. -/
def Turned (w : World) (g : Nat) (on of : Option Nat) (t : T) (w' : World) : Prop :=
  ∃ on' of', TreeAt w' g on' of' t ∧ (∀ b ∈ own g on' of', b ∈ own g on of ∨ w.heap.size ≤ b) ∧ Kept (own g on of) w w'
theorem Turned.still {w w' : World} {g : Nat} {on of : Option Nat} {t : T} (h : TreeAt w g on of t) (hb : Below w.heap.size w w') : Turned w g on of t w' :=
  ⟨on, of, h.below hb, fun _ hb => .inl hb, .of_below hb⟩

theorem namesF_snoc {E : List (Pth.Bs × Nat)} {s : Pth.Bs} {k : Nat} (h : Tre.look E s = none) : setF (namesF E) (.string s) (.int .i64 (k : Int)) = namesF (E ++ [(s, k)]) := by
  unfold namesF
  rw [strF_set]
  congr 1
  funext x
  rw [look_snoc]
  by_cases e : x = s
  · subst e; rw [h]; simp
  · rw [if_neg e, if_neg e]; cases Tre.look E x <;> rfl
theorem filesF_upd (fl : Nat → Option Nd) (k : Nat) (n : Nd) : setF (filesF fl) (.int .i64 (k : Int)) (ndv n) = filesF (upd fl k (some n)) := by
  unfold filesF
  rw [intF_set]
  congr 1
  funext x
  unfold upd
  by_cases e : x = (k : Int)
  · subst e
    rw [if_pos rfl, if_pos (by omega), if_pos (by omega)]; rfl
  · rw [if_neg e]
    by_cases e2 : 0 ≤ x
    · rw [if_pos e2, if_pos e2, if_neg (by omega)]
    · rw [if_neg e2, if_neg e2]
/-- Ready for a new entry: both maps are made. -/
def Ready (w : World) (g : Nat) (on of : Option Nat) (t : T) (x : Deed) (B : Nat) (bn bf : Nat) (wx : World) : Prop :=
  Blk wx g 71 #[.map (some bn), .map (some bf), .int .i64 t.nx] ∧ MapF wx Tryz.prog 9 bn (namesF t.ents) t.ents.length ∧ (∃ nf, MapF wx Tryz.prog 3 bf (filesF t.fl) nf ∧ nf ≤ t.nx) ∧ bn ≠ bf ∧
    (bn ∈ own g on of ∨ w.heap.size ≤ bn) ∧ (bf ∈ own g on of ∨ w.heap.size ≤ bf) ∧ Blk wx B 53 (dvc x) ∧ w.heap.size ≤ B ∧ Kept (own g on of) w wx

theorem blk_map_ne {w : World} {g b n : Nat} {t K : TypeId} {cs : Array Value} {P : Program} {f : Lit → Option Value} (h : Blk w g t cs) (k : MapF w P K b f n) : g ≠ b := by
  rintro rfl
  obtain ⟨D, ⟨es, clock, hb, _⟩, _⟩ := k
  unfold Blk at h
  rw [h] at hb
  cases hb

set_option maxRecDepth 100000 in
set_option maxHeartbeats 4000000 in
theorem create_any {w : World} {g : Nat} {on of : Option Nat} {t : T} (h : TreeAt w g on of t) (ht : Std t) (hx : t.nx ≤ 100000) (hm : ML w) (x : Deed) (hk : x.node.kind ≤ 255) (h1 : x.name.length ≤ 10000) (h2 : x.node.link.length ≤ 10000) (h3 : x.node.data.length ≤ 10000) :
    Calls Tryz.prog 68 #[.pointer (some ⟨g, 0, none⟩), dv x] w fun e w' => e = .returned (errV (create t x).2) ∧ Turned w g on of (create t x).1 w' := by
  have hg := h.blk.lt
  have hb0 : Below w.heap.size w (w.alloc (.cells (dvc x) 53)) := (Below.refl _ _).alloc (Nat.le_refl _) _
  have HT := Lib.hid h
  have HS := Lib.hid ht
  have HX := Lib.hid hx
  have TR := Lib.hid (fun w => treeRight_any x.node hk (by omega) (by omega) w)
  have SPC := Lib.hid (fun w' (hb : Below w.heap.size w w') => space_any (HT.out.below hb) ht (by omega) (hm.below hb) (bs x.name) (by rw [bs_size]; omega))
  have e : create t x = if rightN x.node = false then (t, 1) else if space t x.name ≠ 0 then (t, space t x.name) else (⟨t.ents ++ [(x.name, t.nx + 1)], upd t.fl (t.nx + 1) (some x.node), t.nx + 1⟩, 0) := rfl
  rw [e]
  clear e h ht hm hx
  obtain ⟨r, hr⟩ : ∃ r, r = rightN x.node := ⟨_, rfl⟩
  rw [← hr] at TR ⊢
  obtain ⟨c, hc⟩ : ∃ c, c = space t x.name := ⟨_, rfl⟩
  have SPC2 : Hid (∀ w', Below w.heap.size w w' → Calls Tryz.prog 117 #[.pointer (some ⟨g, 0, none⟩), .string (bs x.name)] w' fun e w'' => e = .returned (errV c) ∧ Below w'.heap.size w' w'') := by
    rw [hc]; exact SPC
  rw [← hc]
  have HC := Lib.hid hc
  unfold dv dvc
  unfold ndv ndc at TR
  obtain ⟨what, name, dest, n, node⟩ := x
  obtain ⟨n0, n1, n2, n3, n4, n5, n6, n7, n8, n9⟩ := node
  simp only at *
  clear SPC hc hr
  cases r with
  | false =>
    rw [if_pos rfl]
    go_enter Tryz.func68, Tryz.ntmps68
    go_wp2_with fail
    refine (TR.out _).mono ?_
    rintro e w1 ⟨rfl, k1⟩
    have B1 := Lib.hid (thenB ((Below.refl _ _).alloc (Nat.le_refl _) _) k1)
    clear k1
    go_wp2_with fail
    go_ret
    exact ⟨rfl, Turned.still HT.out B1.out⟩
  | true =>
    rw [if_neg (by simp)]
    by_cases h0 : c = 0
    · subst h0
      rw [if_neg (by simp)]
      have e1 : errV 0 = .nilIface := rfl
      rw [e1] at SPC2
      clear e1
      go_enter Tryz.func68, Tryz.ntmps68
      go_wp2_with fail
      refine (TR.out _).mono ?_
      rintro e w1 ⟨rfl, k1⟩
      have B1 := Lib.hid (thenB ((Below.refl _ _).alloc (Nat.le_refl _) _) k1)
      have b1 := k1.cell (p := ⟨w.heap.size, 1, none⟩) (by simp)
      have BB := Lib.hid ((Blk.new w 53 (dvc ⟨what, name, dest, n, ⟨n0, n1, n2, n3, n4, n5, n6, n7, n8, n9⟩⟩)).below k1 (by simp))
      have z1 := BB.out.cell 1
      clear k1 b1
      unfold dvc at z1
      go_wp2_with fail
      refine (SPC2.out _ B1.out).mono ?_
      rintro e w2 ⟨rfl, k2⟩
      have B2 := Lib.hid (thenB B1.out k2)
      have BB2 := Lib.hid (BB.out.below k2 BB.out.lt)
      clear k2 z1
      have T2 := Lib.hid (HT.out.below B2.out)
      have g0 := T2.out.blk.cell 0
      have hmm := @run_makeMap Tryz.prog
      have hq := fun W => run_eql_map_nil (P := Tryz.prog) W 68 9 3 on Tryz.underlying68
      go_upto_if 22 with (fail)
      go_cut [] (fun wx => ∃ bn bf, Ready w g on of t ⟨what, name, dest, n, ⟨n0, n1, n2, n3, n4, n5, n6, n7, n8, n9⟩⟩ w.heap.size bn bf wx)
      case first =>
        cases on with
        | none =>
          have hof : of = none := T2.out.both.1 rfl
          subst hof
          have fz0 := T2.out.blk.frozen 0
          have fz1 := T2.out.blk.frozen 1
          have g1 := T2.out.blk.cell 1
          have hg2 := T2.out.blk.lt
          go_wp2_with fail
          go_meet
          have hl : t.ents.length = 0 := T2.out.nm.1
          have hgw := B2.out.size
          obtain ⟨nf, hnf, _⟩ := T2.out.fl
          refine ⟨w2.heap.size, w2.heap.size + 1, ?_, ?_, ⟨0, ?_, Nat.zero_le _⟩, by omega, .inr hgw, .inr (by omega), ?_, Nat.le_refl _, ?_⟩
          · exact (((T2.out.blk.set_ 0 _).set_ 1 _).alloc _).alloc _
          · have h5 := (MapF.made ((w2.setCell ⟨g, 0, none⟩ (.map (some w2.heap.size))).setCell ⟨g, 1, none⟩ (.map (some (w2.heap.size + 1)))) Tryz.prog 9).congr fun k hk => (T2.out.nm.2 k hk).symm
            rw [show ((w2.setCell ⟨g, 0, none⟩ (.map (some w2.heap.size))).setCell ⟨g, 1, none⟩ (.map (some (w2.heap.size + 1)))).heap.size = w2.heap.size by simp [World.setCell]] at h5
            rw [hl]
            exact h5.alloc _
          · have h5 := (MapF.made (((w2.setCell ⟨g, 0, none⟩ (.map (some w2.heap.size))).setCell ⟨g, 1, none⟩ (.map (some (w2.heap.size + 1)))).alloc (.map #[] 0)) Tryz.prog 3).congr fun k hk => (hnf.2 k hk).symm
            rw [show (((w2.setCell ⟨g, 0, none⟩ (.map (some w2.heap.size))).setCell ⟨g, 1, none⟩ (.map (some (w2.heap.size + 1)))).alloc (.map #[] 0)).heap.size = w2.heap.size + 1 by simp [World.setCell]] at h5
            exact h5
          · exact (((BB2.out.far (p := ⟨g, 0, none⟩) (by show w.heap.size ≠ g; omega) _).far (p := ⟨g, 1, none⟩) (by show w.heap.size ≠ g; omega) _).alloc _).alloc _
          · exact ((((Kept.of_below B2.out).setCell (p := ⟨g, 0, none⟩) (.inl (by simp [own])) _).setCell (p := ⟨g, 1, none⟩) (.inl (by simp [own])) _).alloc _).alloc _
        | some bn =>
          cases of with
          | none => exact absurd (HT.out.both.2 rfl) (by simp)
          | some bf =>
            go_wp2_with fail
            go_meet
            exact ⟨bn, bf, T2.out.blk, T2.out.nm, T2.out.fl, fun e => T2.out.ne bn rfl (by rw [e]), .inl (by simp [own]), .inl (by simp [own]), BB2.out, Nat.le_refl _, .of_below B2.out⟩
      case rest =>
        obtain ⟨bn, bf, r1, r2, ⟨nf, r3, r4⟩, r5, r6, r7, r8, r9, r10⟩ := hcut
        have q0 := r1.cell 0
        have q1 := r1.cell 1
        have q2 := r1.cell 2
        have qf2 := r1.frozen 2
        have HX2 := HX.out
        have e9 := Blk.set_ r1 2 (.int .i64 ((t.nx : Int) + 1))
        have m9 := r2.setCell (a := ⟨g, 2, none⟩) (fun e => blk_map_ne r1 r2 e.symm) (.int .i64 ((t.nx : Int) + 1))
        have p9 := r3.setCell (a := ⟨g, 2, none⟩) (fun e => blk_map_ne r1 r3 e.symm) (.int .i64 ((t.nx : Int) + 1))
        have b9 := r8.far (p := ⟨g, 2, none⟩) (by show w.heap.size ≠ g; omega) (.int .i64 ((t.nx : Int) + 1))
        have k9 := r10.setCell (p := ⟨g, 2, none⟩) (.inl (by simp [own])) (.int .i64 ((t.nx : Int) + 1))
        repeat' ((fail_if_success (with_reducible refine halt_at 9 ?_)); first | go_values | go_skip | go_guarded | go_step | go_upon | go_back | (simp only [Int.not_lt, Int.not_le] at *; go_simp) | (go_values <;> (try go_simp)) | (go_ite <;> go_prune <;> (try go_simp)) | (split <;> (first | (rename_i hx; exact (hx _ rfl).elim) | go_prune)))
        obtain ⟨w9, hw9⟩ : ∃ w9, w9 = wc.setCell ⟨g, 2, none⟩ (.int .i64 ((t.nx : Int) + 1)) := ⟨_, rfl⟩
        rw [← hw9] at e9 m9 p9 b9 k9 ⊢
        have e9' : Blk w9 g 71 #[.map (some bn), .map (some bf), .int .i64 ((t.nx : Int) + 1)] := e9
        have hgn : g ≠ bn := blk_map_ne r1 r2
        have hgf : g ≠ bf := blk_map_ne r1 r3
        have hBn : w.heap.size ≠ bn := blk_map_ne r8 r2
        have hBf : w.heap.size ≠ bf := blk_map_ne r8 r3
        have hroom := space_zero HC.out.symm
        have hno : Tre.look t.ents name = none := by
          have := (room_zero hroom.1).2.1
          unfold T.has at this; simpa using this
        have hno1 : namesF t.ents (.string (bs name).data.toList) = none := by rw [bs_list, namesF_at, hno]; rfl
        have hnf : t.fl (t.nx + 1) = none := by
          cases hf : t.fl (t.nx + 1) with
          | none => rfl
          | some q => have := HS.out.fr _ _ hf; omega
        have hno2 : filesF t.fl (.int .i64 ((t.nx : Int) + 1)) = none := by
          have := filesF_at t.fl (t.nx + 1)
          rw [hnf] at this
          simpa using this
        have key2 : keyOf Tryz.prog 3 (.int .i64 ((t.nx : Int) + 1)) = some (.int .i64 ((t.nx : Int) + 1)) := by
          have := natK (t.nx + 1) (by omega)
          simpa using this
        obtain ⟨st, wA, wB, ha, hb, mB, ga, gb, sa, sb⟩ := m9.drew.entry strL Tryz.underlying68 intZero (by unfold maxLen; omega) (strK (bs name) (by rw [bs_size]; unfold maxLen; omega)) hno1 (.int .i64 ((t.nx : Int) + 1))
        have eA := e9'.drew.grown ga (by intro e; injection e with e; exact hgn e)
        have eB := eA.grown gb (by intro e; injection e with e; exact hgn e)
        have bA := b9.drew.grown ga (by intro e; injection e with e; exact hBn e)
        have bB := bA.grown gb (by intro e; injection e with e; exact hBn e)
        have pB := (p9.drew.kept ga (by intro e; injection e with e; exact r5 e.symm)).kept gb (by intro e; injection e with e; exact r5 e.symm)
        obtain ⟨st2, wC, wD, hc, hd, pD, gc, gd, sc, sd⟩ := pB.entry intL Tryz.underlying69 ndZero (by unfold maxLen; omega) key2 hno2 (ndv ⟨n0, n1, n2, n3, n4, n5, n6, n7, n8, n9⟩)
        have eC := eB.grown gc (by intro e; injection e with e; exact hgf e)
        have eD := eC.grown gd (by intro e; injection e with e; exact hgf e)
        have bC := bB.grown gc (by intro e; injection e with e; exact hBf e)
        have mD := (mB.kept gc (by intro e; injection e with e; exact r5 e)).kept gd (by intro e; injection e with e; exact r5 e)
        have kD := (((k9.drew.grown ga r6).grown gb r6).grown gc r7).grown gd r7
        have FIN : Turned w g on of ⟨t.ents ++ [(name, t.nx + 1)], upd t.fl (t.nx + 1) (some ⟨n0, n1, n2, n3, n4, n5, n6, n7, n8, n9⟩), t.nx + 1⟩ wD := by
          refine ⟨some bn, some bf, ⟨?_, ?_, ⟨nf + 1, ?_, ?_⟩, by simp, fun b e1 e2 => ?_⟩, fun b hb => ?_, kD⟩
          · have e : (((t.nx + 1 : Nat)) : Int) = (t.nx : Int) + 1 := by omega
            show Blk wD g 71 #[.map (some bn), .map (some bf), .int .i64 ((t.nx + 1 : Nat) : Int)]
            rw [e]; exact eD
          · show MapF wD Tryz.prog 9 bn (namesF (t.ents ++ [(name, t.nx + 1)])) (t.ents ++ [(name, t.nx + 1)]).length
            rw [List.length_append]
            have h7 := namesF_snoc (k := t.nx + 1) hno
            rw [show (((t.nx + 1 : Nat)) : Int) = (t.nx : Int) + 1 by omega] at h7
            rw [bs_list, h7] at mD
            exact mD
          · show MapF wD Tryz.prog 3 bf (filesF (upd t.fl (t.nx + 1) (some ⟨n0, n1, n2, n3, n4, n5, n6, n7, n8, n9⟩))) (nf + 1)
            have h7 := filesF_upd t.fl (t.nx + 1) ⟨n0, n1, n2, n3, n4, n5, n6, n7, n8, n9⟩
            rw [show (((t.nx + 1 : Nat)) : Int) = (t.nx : Int) + 1 by omega] at h7
            rw [h7] at pD
            exact pD
          · show nf + 1 ≤ t.nx + 1; omega
          · cases e1; cases e2; exact r5 rfl
          · simp [own] at hb
            rcases hb with rfl | rfl | rfl
            · exact .inl (by simp [own])
            · exact r6
            · exact r7
        unfold dvc at b9 bA bB bC
        simp only at b9 bA bB bC
        unfold ndv ndc zero at hc
        unfold ndv ndc at hd
        simp only at hc hd
        have _fw9g0 : w9.cell? ⟨g, 0, none⟩ = some (.map (some bn)) := e9'.cell 0
        have _fw9g1 : w9.cell? ⟨g, 1, none⟩ = some (.map (some bf)) := e9'.cell 1
        have _fw9g2 : w9.cell? ⟨g, 2, none⟩ = some (.int .i64 ((t.nx : Int) + 1)) := e9'.cell 2
        have _fw9b1 : w9.cell? ⟨w.heap.size, 1, none⟩ = some (.string (bs name)) := b9.cell 1
        have _fw9b4 : w9.cell? ⟨w.heap.size, 4, none⟩ = some (.int .u8 n0) := b9.cell 4
        have _fw9b5 : w9.cell? ⟨w.heap.size, 5, none⟩ = some (.int .i64 n1) := b9.cell 5
        have _fw9b6 : w9.cell? ⟨w.heap.size, 6, none⟩ = some (.int .i64 n2) := b9.cell 6
        have _fw9b7 : w9.cell? ⟨w.heap.size, 7, none⟩ = some (.int .i64 n3) := b9.cell 7
        have _fw9b8 : w9.cell? ⟨w.heap.size, 8, none⟩ = some (.int .i64 n4) := b9.cell 8
        have _fw9b9 : w9.cell? ⟨w.heap.size, 9, none⟩ = some (.int .i64 n5) := b9.cell 9
        have _fw9b10 : w9.cell? ⟨w.heap.size, 10, none⟩ = some (.string (bs n6)) := b9.cell 10
        have _fw9b11 : w9.cell? ⟨w.heap.size, 11, none⟩ = some (.string (bs n7)) := b9.cell 11
        have _fw9b12 : w9.cell? ⟨w.heap.size, 12, none⟩ = some (.int .i64 n8) := b9.cell 12
        have _fw9b13 : w9.cell? ⟨w.heap.size, 13, none⟩ = some (.int .i64 n9) := b9.cell 13
        have _fwAg0 : wA.cell? ⟨g, 0, none⟩ = some (.map (some bn)) := eA.cell 0
        have _fwAg1 : wA.cell? ⟨g, 1, none⟩ = some (.map (some bf)) := eA.cell 1
        have _fwAg2 : wA.cell? ⟨g, 2, none⟩ = some (.int .i64 ((t.nx : Int) + 1)) := eA.cell 2
        have _fwAb1 : wA.cell? ⟨w.heap.size, 1, none⟩ = some (.string (bs name)) := bA.cell 1
        have _fwAb4 : wA.cell? ⟨w.heap.size, 4, none⟩ = some (.int .u8 n0) := bA.cell 4
        have _fwAb5 : wA.cell? ⟨w.heap.size, 5, none⟩ = some (.int .i64 n1) := bA.cell 5
        have _fwAb6 : wA.cell? ⟨w.heap.size, 6, none⟩ = some (.int .i64 n2) := bA.cell 6
        have _fwAb7 : wA.cell? ⟨w.heap.size, 7, none⟩ = some (.int .i64 n3) := bA.cell 7
        have _fwAb8 : wA.cell? ⟨w.heap.size, 8, none⟩ = some (.int .i64 n4) := bA.cell 8
        have _fwAb9 : wA.cell? ⟨w.heap.size, 9, none⟩ = some (.int .i64 n5) := bA.cell 9
        have _fwAb10 : wA.cell? ⟨w.heap.size, 10, none⟩ = some (.string (bs n6)) := bA.cell 10
        have _fwAb11 : wA.cell? ⟨w.heap.size, 11, none⟩ = some (.string (bs n7)) := bA.cell 11
        have _fwAb12 : wA.cell? ⟨w.heap.size, 12, none⟩ = some (.int .i64 n8) := bA.cell 12
        have _fwAb13 : wA.cell? ⟨w.heap.size, 13, none⟩ = some (.int .i64 n9) := bA.cell 13
        have _fwBg0 : wB.cell? ⟨g, 0, none⟩ = some (.map (some bn)) := eB.cell 0
        have _fwBg1 : wB.cell? ⟨g, 1, none⟩ = some (.map (some bf)) := eB.cell 1
        have _fwBg2 : wB.cell? ⟨g, 2, none⟩ = some (.int .i64 ((t.nx : Int) + 1)) := eB.cell 2
        have _fwBb1 : wB.cell? ⟨w.heap.size, 1, none⟩ = some (.string (bs name)) := bB.cell 1
        have _fwBb4 : wB.cell? ⟨w.heap.size, 4, none⟩ = some (.int .u8 n0) := bB.cell 4
        have _fwBb5 : wB.cell? ⟨w.heap.size, 5, none⟩ = some (.int .i64 n1) := bB.cell 5
        have _fwBb6 : wB.cell? ⟨w.heap.size, 6, none⟩ = some (.int .i64 n2) := bB.cell 6
        have _fwBb7 : wB.cell? ⟨w.heap.size, 7, none⟩ = some (.int .i64 n3) := bB.cell 7
        have _fwBb8 : wB.cell? ⟨w.heap.size, 8, none⟩ = some (.int .i64 n4) := bB.cell 8
        have _fwBb9 : wB.cell? ⟨w.heap.size, 9, none⟩ = some (.int .i64 n5) := bB.cell 9
        have _fwBb10 : wB.cell? ⟨w.heap.size, 10, none⟩ = some (.string (bs n6)) := bB.cell 10
        have _fwBb11 : wB.cell? ⟨w.heap.size, 11, none⟩ = some (.string (bs n7)) := bB.cell 11
        have _fwBb12 : wB.cell? ⟨w.heap.size, 12, none⟩ = some (.int .i64 n8) := bB.cell 12
        have _fwBb13 : wB.cell? ⟨w.heap.size, 13, none⟩ = some (.int .i64 n9) := bB.cell 13
        have _fwCg0 : wC.cell? ⟨g, 0, none⟩ = some (.map (some bn)) := eC.cell 0
        have _fwCg1 : wC.cell? ⟨g, 1, none⟩ = some (.map (some bf)) := eC.cell 1
        have _fwCg2 : wC.cell? ⟨g, 2, none⟩ = some (.int .i64 ((t.nx : Int) + 1)) := eC.cell 2
        have _fwCb1 : wC.cell? ⟨w.heap.size, 1, none⟩ = some (.string (bs name)) := bC.cell 1
        have _fwCb4 : wC.cell? ⟨w.heap.size, 4, none⟩ = some (.int .u8 n0) := bC.cell 4
        have _fwCb5 : wC.cell? ⟨w.heap.size, 5, none⟩ = some (.int .i64 n1) := bC.cell 5
        have _fwCb6 : wC.cell? ⟨w.heap.size, 6, none⟩ = some (.int .i64 n2) := bC.cell 6
        have _fwCb7 : wC.cell? ⟨w.heap.size, 7, none⟩ = some (.int .i64 n3) := bC.cell 7
        have _fwCb8 : wC.cell? ⟨w.heap.size, 8, none⟩ = some (.int .i64 n4) := bC.cell 8
        have _fwCb9 : wC.cell? ⟨w.heap.size, 9, none⟩ = some (.int .i64 n5) := bC.cell 9
        have _fwCb10 : wC.cell? ⟨w.heap.size, 10, none⟩ = some (.string (bs n6)) := bC.cell 10
        have _fwCb11 : wC.cell? ⟨w.heap.size, 11, none⟩ = some (.string (bs n7)) := bC.cell 11
        have _fwCb12 : wC.cell? ⟨w.heap.size, 12, none⟩ = some (.int .i64 n8) := bC.cell 12
        have _fwCb13 : wC.cell? ⟨w.heap.size, 13, none⟩ = some (.int .i64 n9) := bC.cell 13
        have FN := Lib.hid FIN
        clear FIN hw9 e9 e9' m9 p9 b9 k9 r1 r2 r3 r8 r10 mB ga gb sa sb eA eB bA bB pB pD gc gd sc sd eC eD bC mD kD hno hno1 hno2 hnf key2 hroom q0 q1 q2 qf2 r4 r5 r6 r7 r9 g0 hgn hgf hBn hBf
        go_region
        all_goals go_wp2_with fail
        all_goals go_ret
        all_goals exact ⟨rfl, FN.out⟩
    · rw [if_pos h0]
      have e1 : errV c = .iface 89 (.int .i64 c) := if_neg h0
      rw [e1] at SPC2 ⊢
      clear e1
      go_enter Tryz.func68, Tryz.ntmps68
      go_wp2_with fail
      refine (TR.out _).mono ?_
      rintro e w1 ⟨rfl, k1⟩
      have B1 := Lib.hid (thenB ((Below.refl _ _).alloc (Nat.le_refl _) _) k1)
      have z1 := k1.cell (p := ⟨w.heap.size, 1, none⟩) (by simp)
      have z2 := ((Blk.new w 53 (dvc ⟨what, name, dest, n, ⟨n0, n1, n2, n3, n4, n5, n6, n7, n8, n9⟩⟩)).below k1 (by simp)).cell 1
      clear k1 z1
      unfold dvc at z2
      go_wp2_with fail
      refine (SPC2.out _ B1.out).mono ?_
      rintro e w2 ⟨rfl, k2⟩
      have B2 := Lib.hid (thenB B1.out k2)
      clear k2
      go_wp2_with fail
      go_ret
      exact ⟨rfl, Turned.still HT.out B2.out⟩

end Go.Proofs.YtipajekehbpghaaGreatDoor

namespace Go.Proofs.YtipajekehbpghaaGreatDoor
open Go.RowKit Go.Maps Tre

theorem TreeAt.made {w : World} {g : Nat} {on of : Option Nat} {t : T} (h : TreeAt w g on of t) {s : Pth.Bs} {k : Nat} (hk : Tre.look t.ents s = some k) :
    ∃ bn bf, on = some bn ∧ of = some bf := by
  cases on with
  | none =>
    have := h.nm.2 (.string s) trivial
    rw [namesF_at, hk] at this
    cases this
  | some bn =>
    cases of with
    | none => exact absurd (h.both.2 rfl) (by simp)
    | some bf => exact ⟨bn, bf, rfl, rfl⟩
theorem namesF_del (E : List (Pth.Bs × Nat)) (s : Pth.Bs) : delF (namesF E) (.string s) = namesF (E.filter fun p => !(p.1 == s)) := by
  unfold namesF
  rw [strF_del]
  congr 1
  funext x
  by_cases e : x = s
  · subst e; rw [if_pos rfl, look_filter_self]; rfl
  · rw [if_neg e, look_filter _ _ _ e]
theorem filesF_del (fl : Nat → Option Nd) (k : Nat) : delF (filesF fl) (.int .i64 (k : Int)) = filesF (upd fl k none) := by
  unfold filesF
  rw [intF_del]
  congr 1
  funext x
  unfold upd
  by_cases e : x = (k : Int)
  · subst e
    rw [if_pos rfl, if_pos (by omega), if_pos (by omega)]; rfl
  · rw [if_neg e]
    by_cases e2 : 0 ≤ x
    · rw [if_pos e2, if_pos e2, if_neg (by omega)]
    · rw [if_neg e2, if_neg e2]
theorem filter_len {E : List (Pth.Bs × Nat)} (h : Apart E) {s : Pth.Bs} {k : Nat} (hk : (s, k) ∈ E) : (E.filter fun p => !(p.1 == s)).length = E.length - 1 := by
  induction E with
  | nil => cases hk
  | cons p E ih =>
    obtain ⟨h1, h2⟩ := List.pairwise_cons.1 h
    by_cases e : p.1 = s
    · rw [List.filter_cons_of_neg (by simp [e])]
      have : E.filter (fun p => !(p.1 == s)) = E := List.filter_eq_self.2 fun q hq => by
        have := h1 q hq
        rw [e] at this
        simp [Ne.symm this]
      rw [this]; simp
    · rcases List.mem_cons.1 hk with e2 | hk
      · exact absurd (by rw [← e2]) e
      · rw [List.filter_cons_of_pos (by simp [e]), List.length_cons, List.length_cons, ih h2 hk]
        have := List.length_pos_of_mem hk
        omega

set_option maxRecDepth 100000 in
set_option maxHeartbeats 4000000 in
theorem again_tree {w : World} {g : Nat} {on of : Option Nat} {t : T} (h : TreeAt w g on of t) (ht : Std t) (hx : t.nx ≤ 100000) (hm : ML w) (x : Deed) (i : Nat) (hi : Tre.look t.ents x.name = some i) (h1 : x.to.length ≤ 10000) :
    Calls Tryz.prog 70 #[.pointer (some ⟨g, 0, none⟩), dv x] w fun e w' => e = .returned (errV (again t x i).2) ∧ Turned w g on of (again t x i).1 w' := by
  have hg := h.blk.lt
  have hb0 : Below w.heap.size w (w.alloc (.cells (dvc x) 53)) := (Below.refl _ _).alloc (Nat.le_refl _) _
  obtain ⟨bn, bf, rfl, rfl⟩ := h.made hi
  have HT := Lib.hid h
  have HS := Lib.hid ht
  have hsh := ht.short hi
  have HI := Lib.hid hi
  have DR := Lib.hid (isDir_any (h.below hb0) (bs x.name) (fun k hk => by have := (ht.short hk).2; omega) (by rw [bs_size]; omega))
  have SPC := Lib.hid (fun w' (hb : Below w.heap.size w w') => space_any (HT.out.below hb) ht (by omega) (hm.below hb) (bs x.to) (by rw [bs_size]; omega))
  have e : again t x i = if t.isDir x.name = true then (t, 6) else if space t x.to ≠ 0 then (t, space t x.to) else (⟨t.ents ++ [(x.to, i)], t.fl, t.nx⟩, 0) := rfl
  rw [e]
  clear e h ht hm hi
  obtain ⟨r, hr⟩ : ∃ r, r = t.isDir x.name := ⟨_, rfl⟩
  rw [bs_list] at DR
  rw [← hr] at DR ⊢
  obtain ⟨c, hc⟩ : ∃ c, c = space t x.to := ⟨_, rfl⟩
  have SPC2 : Hid (∀ w', Below w.heap.size w w' → Calls Tryz.prog 117 #[.pointer (some ⟨g, 0, none⟩), .string (bs x.to)] w' fun e w'' => e = .returned (errV c) ∧ Below w'.heap.size w' w'') := by
    rw [hc]; exact SPC
  rw [← hc]
  have HC := Lib.hid hc
  unfold dv dvc
  unfold dvc at DR hb0
  obtain ⟨what, name, dest, n, node⟩ := x
  obtain ⟨n0, n1, n2, n3, n4, n5, n6, n7, n8, n9⟩ := node
  simp only at *
  clear SPC hc hr
  cases r with
  | true =>
    rw [if_pos rfl]
    go_enter Tryz.func70, Tryz.ntmps70
    go_wp2_with fail
    refine DR.out.mono ?_
    rintro e w1 ⟨rfl, k1⟩
    have B1 := Lib.hid (thenB ((Below.refl _ _).alloc (Nat.le_refl _) _) k1)
    clear k1
    go_wp2_with fail
    go_ret
    exact ⟨rfl, Turned.still HT.out B1.out⟩
  | false =>
    rw [if_neg (by simp)]
    by_cases h0 : c = 0
    · subst h0
      rw [if_neg (by simp)]
      have e1 : errV 0 = .nilIface := rfl
      rw [e1] at SPC2
      clear e1
      go_enter Tryz.func70, Tryz.ntmps70
      go_wp2_with fail
      refine DR.out.mono ?_
      rintro e w1 ⟨rfl, k1⟩
      have B1 := Lib.hid (thenB ((Below.refl _ _).alloc (Nat.le_refl _) _) k1)
      have bb := ((Blk.new w 53 (dvc ⟨what, name, dest, n, ⟨n0, n1, n2, n3, n4, n5, n6, n7, n8, n9⟩⟩)).below k1 (by simp))
      have z2 : w1.cell? ⟨w.heap.size, 2, none⟩ = some (.string (bs dest)) := bb.cell 2
      have BB := Lib.hid bb
      clear k1 bb
      go_wp2_with fail
      refine (SPC2.out _ B1.out).mono ?_
      rintro e w2 ⟨rfl, k2⟩
      have B2 := Lib.hid (thenB B1.out k2)
      have bb2 := BB.out.below k2 BB.out.lt
      have T2 := HT.out.below B2.out
      clear k2 z2 BB DR SPC2
      repeat' ((fail_if_success (with_reducible refine halt_at 6 ?_)); first | go_values | go_skip | go_guarded | go_step | go_upon | go_back | (simp only [Int.not_lt, Int.not_le] at *; go_simp) | (go_values <;> (try go_simp)) | (go_ite <;> go_prune <;> (try go_simp)) | (split <;> (first | (rename_i hx; exact (hx _ rfl).elim) | go_prune)))
      have y2 : w2.cell? ⟨w.heap.size, 2, none⟩ = some (.string (bs dest)) := bb2.cell 2
      have y1 : w2.cell? ⟨w.heap.size, 1, none⟩ = some (.string (bs name)) := bb2.cell 1
      have g0 : w2.cell? ⟨g, 0, none⟩ = some (.map (some bn)) := T2.blk.cell 0
      have nm := T2.nm
      obtain ⟨nf, hf, hnf⟩ := T2.fl
      have hroom := space_zero HC.out.symm
      have hno : Tre.look t.ents dest = none := by
        have := (room_zero hroom.1).2.1
        unfold T.has at this; simpa using this
      have hno1 : namesF t.ents (.string (bs dest).data.toList) = none := by rw [bs_list, namesF_at, hno]; rfl
      have hlk1 : namesF t.ents (.string (bs name).data.toList) = some (.int .i64 i) := by rw [bs_list, namesF_at, HI.out]; rfl
      have nm2 : MapF w2.drew Tryz.prog 9 bn (namesF t.ents) t.ents.length := MapF.drew nm
      have hlook := nm2.look strL Tryz.underlying68 intZero (strK (bs name) (by rw [bs_size]; unfold maxLen; omega)) hlk1
      obtain ⟨wA, hA, mA, gA, sA⟩ := nm2.store strL Tryz.underlying68 (by unfold maxLen; omega) (strK (bs dest) (by rw [bs_size]; unfold maxLen; omega)) (.int .i64 (i : Int))
      have hgn : g ≠ bn := blk_map_ne T2.blk nm
      have eA := T2.blk.drew.grown gA (by intro e; injection e with e; exact hgn e)
      have fA := (MapF.drew hf).kept gA (by intro e; exact T2.ne bn rfl e)
      have kA := (Kept.of_below B2.out).drew.grown gA (.inl (by simp [own]) : bn ∈ own g (some bn) (some bf) ∨ _)
      have FIN : Turned w g (some bn) (some bf) ⟨t.ents ++ [(dest, i)], t.fl, t.nx⟩ wA := by
        refine ⟨some bn, some bf, ⟨eA, ?_, ⟨nf, fA, hnf⟩, by simp, T2.ne⟩, fun b hb => .inl hb, kA⟩
        show MapF wA Tryz.prog 9 bn (namesF (t.ents ++ [(dest, i)])) (t.ents ++ [(dest, i)]).length
        rw [List.length_append]
        rw [bs_list, namesF_snoc hno, namesF_at, hno] at mA
        exact mA
      have FN := Lib.hid FIN
      simp only [Option.getD_some] at hlook
      clear FIN nm nm2 hf hnf hroom hno hno1 hlk1 mA gA sA hgn eA fA kA T2 bb2 HI
      go_region
      all_goals go_wp2_with fail
      all_goals go_ret
      all_goals exact ⟨rfl, FN.out⟩
    · rw [if_pos h0]
      have e1 : errV c = .iface 89 (.int .i64 c) := if_neg h0
      rw [e1] at SPC2 ⊢
      clear e1
      go_enter Tryz.func70, Tryz.ntmps70
      go_wp2_with fail
      refine DR.out.mono ?_
      rintro e w1 ⟨rfl, k1⟩
      have B1 := Lib.hid (thenB ((Below.refl _ _).alloc (Nat.le_refl _) _) k1)
      have z2 : w1.cell? ⟨w.heap.size, 2, none⟩ = some (.string (bs dest)) := ((Blk.new w 53 (dvc ⟨what, name, dest, n, ⟨n0, n1, n2, n3, n4, n5, n6, n7, n8, n9⟩⟩)).below k1 (by simp)).cell 2
      clear k1
      go_wp2_with fail
      refine (SPC2.out _ B1.out).mono ?_
      rintro e w2 ⟨rfl, k2⟩
      have B2 := Lib.hid (thenB B1.out k2)
      clear k2
      go_wp2_with fail
      go_ret
      exact ⟨rfl, Turned.still HT.out B2.out⟩

end Go.Proofs.YtipajekehbpghaaGreatDoor

namespace Go.Proofs.YtipajekehbpghaaGreatDoor
open Go.RowKit Go.Maps Tre

theorem mem_pos {E : List (Pth.Bs × Nat)} {p : Pth.Bs × Nat} (h : p ∈ E) : 0 < E.length := List.length_pos_of_mem h

set_option maxRecDepth 100000 in
set_option maxHeartbeats 4000000 in
theorem remove_tree {w : World} {g : Nat} {on of : Option Nat} {t : T} (h : TreeAt w g on of t) (ht : Std t) (hx : t.nx ≤ 100000) (hm : ML w) (x : Deed) (i : Nat) (hi : Tre.look t.ents x.name = some i) :
    Calls Tryz.prog 71 #[.pointer (some ⟨g, 0, none⟩), dv x] w fun e w' => e = .returned (errV (remove t x i).2) ∧ Turned w g on of (remove t x i).1 w' := by
  have hg := h.blk.lt
  have hb0 : Below w.heap.size w (w.alloc (.cells (dvc x) 53)) := (Below.refl _ _).alloc (Nat.le_refl _) _
  obtain ⟨bn, bf, rfl, rfl⟩ := h.made hi
  have HT := Lib.hid h
  have HS := Lib.hid ht
  have hsh := ht.short hi
  have hin : i ≤ 100000 := by omega
  have HI := Lib.hid hi
  have hh : t.has x.name = true := has_iff.2 ⟨i, look_mem hi⟩
  have IS := Lib.hid (inside_any (h.below hb0) ht (hm.below hb0) (bs x.name) (by rw [bs_size]; omega) hh)
  have LK := Lib.hid (fun w' (hb : Below w.heap.size w w') => links_any (HT.out.below hb) ht (bs x.name) (by rw [bs_size]; omega))
  have hlb : (t.inside x.name).length ≤ 60 := by
    unfold T.inside
    have := List.length_filter_le (fun y => Pth.inn y x.name) t.names
    rw [names_len] at this
    have := ht.cn
    omega
  have hlc : t.links x.name ≤ 60 := by
    unfold T.links
    have := List.length_filter_le (fun p : Pth.Bs × Nat => t.alike x.name p.1) t.ents
    have := ht.cn
    omega
  have e : remove t x i = if 1 < (t.inside x.name).length then (t, 6) else (⟨t.ents.filter fun p => !(p.1 == x.name), if t.links x.name = 1 then upd t.fl i none else t.fl, t.nx⟩, 0) := rfl
  rw [e]
  rw [bs_list] at IS
  have LK2 : Hid (∀ w', Below w.heap.size w w' → Calls Tryz.prog 91 #[.pointer (some ⟨g, 0, none⟩), .string (bs x.name)] w' fun e w'' => e = .returned (.int .i64 (t.links x.name)) ∧ Below w'.heap.size w' w'') := LK
  clear e h ht hm hi hh LK
  obtain ⟨L, hL⟩ : ∃ L, L = t.inside x.name := ⟨_, rfl⟩
  rw [← hL] at IS hlb ⊢
  obtain ⟨c, hc⟩ : ∃ c, c = t.links x.name := ⟨_, rfl⟩
  rw [← hc] at LK2 hlc ⊢
  unfold dv dvc
  unfold dvc at IS hb0
  obtain ⟨what, name, dest, n, node⟩ := x
  obtain ⟨n0, n1, n2, n3, n4, n5, n6, n7, n8, n9⟩ := node
  simp only at *
  clear hL hc
  by_cases h6 : 1 < L.length
  · rw [if_pos h6]
    have h6i : (1 : Int) < L.length := by omega
    go_enter Tryz.func71, Tryz.ntmps71
    go_wp2_with fail
    refine IS.out.mono ?_
    rintro e w1 ⟨v, rfl, hv, k1⟩
    obtain ⟨X, cap, rfl, _⟩ := hv
    have B1 := Lib.hid (thenB ((Below.refl _ _).alloc (Nat.le_refl _) _) k1)
    clear k1
    go_wp2_with fail
    go_ret
    exact ⟨rfl, Turned.still HT.out B1.out⟩
  · rw [if_neg h6]
    obtain ⟨F, hF⟩ : ∃ F, F = if c = 1 then upd t.fl i none else t.fl := ⟨_, rfl⟩
    rw [← hF]
    have HF := Lib.hid hF
    clear hF
    have h6i : ¬ (1 : Int) < L.length := by omega
    go_enter Tryz.func71, Tryz.ntmps71
    go_wp2_with fail
    refine IS.out.mono ?_
    rintro e w1 ⟨v, rfl, hv, k1⟩
    obtain ⟨X, cap, rfl, _⟩ := hv
    have B1 := Lib.hid (thenB ((Below.refl _ _).alloc (Nat.le_refl _) _) k1)
    have bb := (Blk.new w 53 (dvc ⟨what, name, dest, n, ⟨n0, n1, n2, n3, n4, n5, n6, n7, n8, n9⟩⟩)).below k1 (by simp)
    have z1 : w1.cell? ⟨w.heap.size, 1, none⟩ = some (.string (bs name)) := bb.cell 1
    have BB := Lib.hid bb
    clear k1 bb
    go_wp2_with fail
    refine (LK2.out _ B1.out).mono ?_
    rintro e w2 ⟨rfl, k2⟩
    have B2 := Lib.hid (thenB B1.out k2)
    have bb2 := BB.out.below k2 BB.out.lt
    have T2 := HT.out.below B2.out
    clear k2 z1 BB IS LK2 B1
    repeat' ((fail_if_success (with_reducible refine halt_at 4 ?_)); first | go_values | go_skip | go_guarded | go_step | go_upon | go_back | (simp only [Int.not_lt, Int.not_le] at *; go_simp) | (go_values <;> (try go_simp)) | (go_ite <;> go_prune <;> (try go_simp)) | (split <;> (first | (rename_i hx; exact (hx _ rfl).elim) | go_prune)))
    have y1 : w2.cell? ⟨w.heap.size, 1, none⟩ = some (.string (bs name)) := bb2.cell 1
    have g0 : w2.cell? ⟨g, 0, none⟩ = some (.map (some bn)) := T2.blk.cell 0
    have nm := T2.nm
    have hlk1 : namesF t.ents (.string (bs name).data.toList) = some (.int .i64 i) := by rw [bs_list, namesF_at, HI.out]; rfl
    have nm2 : MapF w2.drew Tryz.prog 9 bn (namesF t.ents) t.ents.length := MapF.drew nm
    have hlook := nm2.look strL Tryz.underlying68 intZero (strK (bs name) (by rw [bs_size]; unfold maxLen; omega)) hlk1
    simp only [Option.getD_some] at hlook
    have NM2 := Lib.hid nm2
    have HLK := Lib.hid hlk1
    have BB2 := Lib.hid bb2
    have T2' := Lib.hid T2
    clear nm nm2 hlk1 bb2 T2
    go_region
    obtain ⟨w3, hw3⟩ : ∃ w3, w3 = w2.drew := ⟨_, rfl⟩
    rw [← hw3] at NM2 ⊢
    have T3 : TreeAt w3 g (some bn) (some bf) t := by rw [hw3]; exact T2'.out.drew
    have bb3 := BB2.out.drew
    rw [← hw3] at bb3
    have k3 : Kept (own g (some bn) (some bf)) w w3 := by rw [hw3]; exact (Kept.of_below B2.out).drew
    clear hlook y1 g0 hw3 T2' BB2 B2
    repeat' ((fail_if_success (with_reducible refine halt_at 5 ?_)); first | go_values | go_skip | go_guarded | go_step | go_upon | go_back | (simp only [Int.not_lt, Int.not_le] at *; go_simp) | (go_values <;> (try go_simp)) | (go_ite <;> go_prune <;> (try go_simp)) | (split <;> (first | (rename_i hx; exact (hx _ rfl).elim) | go_prune)))
    have y1 : w3.cell? ⟨w.heap.size, 1, none⟩ = some (.string (bs name)) := bb3.cell 1
    have g0 : w3.cell? ⟨g, 0, none⟩ = some (.map (some bn)) := T3.blk.cell 0
    obtain ⟨wA, hA, mA, gA, sA⟩ := NM2.out.drew.drop strL Tryz.underlying68 (strK (bs name) (by rw [bs_size]; unfold maxLen; omega)) 0
    rw [HLK.out] at mA
    have hgn : g ≠ bn := blk_map_ne T3.blk NM2.out
    have hgf : g ≠ bf := by
      obtain ⟨nf, hf, _⟩ := T3.fl
      exact blk_map_ne T3.blk hf
    have eA := T3.blk.drew.grown gA (by intro e; injection e with e; exact hgn e)
    obtain ⟨nf, hf, hnf⟩ := T3.fl
    have fA : MapF wA Tryz.prog 3 bf (filesF t.fl) nf := (MapF.drew hf).kept gA (by intro e; exact T3.ne bn rfl e)
    have kA := k3.drew.grown gA (.inl (by simp [own]) : bn ∈ own g (some bn) (some bf) ∨ _)
    have hne := T3.ne
    have hlen : (t.ents.filter fun p => !(p.1 == name)).length = t.ents.length - 1 := filter_len HS.out.nd (look_mem HI.out)
    have mA2 : MapF wA Tryz.prog 9 bn (namesF (t.ents.filter fun p => !(p.1 == name))) (t.ents.filter fun p => !(p.1 == name)).length := by
      rw [hlen]
      rw [bs_list, namesF_del] at mA
      simpa using mA
    have EA := Lib.hid eA
    have FA := Lib.hid fA
    have KA := Lib.hid kA
    have MA := Lib.hid mA2
    have HNE := Lib.hid hne
    have HNF := Lib.hid hnf
    clear mA gA sA eA fA kA hne hnf hlen mA2 hf T3 NM2 HLK k3 bb3 hgn
    go_region
    have q1 : wA.cell? ⟨g, 1, none⟩ = some (.map (some bf)) := EA.out.cell 1
    clear y1 g0 hA
    by_cases h1 : c = 1
    · subst h1
      have hF := HF.out
      rw [if_pos rfl] at hF
      subst hF
      obtain ⟨wB, hB, mB, gB, sB⟩ := FA.out.drop intL Tryz.underlying69 (natK i (by omega)) 0
      rw [filesF_del] at mB
      have FIN : Turned w g (some bn) (some bf) ⟨t.ents.filter fun p => !(p.1 == name), upd t.fl i none, t.nx⟩ wB := by
        refine ⟨some bn, some bf, ⟨EA.out.grown gB (by intro e; injection e with e; exact hgf e), MA.out.kept gB (by intro e; injection e with e; exact HNE.out bn rfl (by rw [e])), ⟨_, mB, Nat.le_trans (Nat.sub_le _ _) HNF.out⟩, by simp, HNE.out⟩, fun b hb => .inl hb, KA.out.grown gB (.inl (by simp [own]))⟩
      have FN := Lib.hid FIN
      clear FIN mB gB sB
      go_wp2_with fail
      go_ret
      exact ⟨rfl, FN.out⟩
    · have hF := HF.out
      rw [if_neg h1] at hF
      subst hF
      have h1i : ((c : Int) == 1) = false := beq_eq_false_iff_ne.2 (by omega)
      have FIN : Turned w g (some bn) (some bf) ⟨t.ents.filter fun p => !(p.1 == name), t.fl, t.nx⟩ wA :=
        ⟨some bn, some bf, ⟨EA.out, MA.out, ⟨_, FA.out, HNF.out⟩, by simp, HNE.out⟩, fun b hb => .inl hb, KA.out⟩
      have FN := Lib.hid FIN
      clear FIN
      go_wp2_with fail
      go_ret
      exact ⟨rfl, FN.out⟩

end Go.Proofs.YtipajekehbpghaaGreatDoor

namespace Go.Proofs.YtipajekehbpghaaGreatDoor
open Go.RowKit Go.Maps Tre

theorem change_ways (t : T) (x : Deed) (i : Nat) (m : Nd) (hm : m = t.file i) : change t x i =
    if x.what = 5 ∧ m.kind ≠ 48 then (t, 6) else if x.what = 5 ∧ 4000 < x.to.length then (t, 4)
    else if rightN (changed m x) = false then (t, 1) else (⟨t.ents, upd t.fl i (some (changed m x)), t.nx⟩, 0) := by
  rw [hm]; rfl
/-- The map of files, one of them told anew. -/
theorem file_told {w w' : World} {g bn bf i : Nat} {t : T} (h : TreeAt w g (some bn) (some bf) t) (hi : ∃ n, t.fl i = some n) (hx : t.nx ≤ 100000) (hin : i ≤ 100000) (m : Nd) :
    ∃ wA, (Instr.mapUpdate 69 (.map (some bf)) (.int .i64 i) (ndv m)).run Tryz.prog w = .ok () wA ∧ TreeAt wA g (some bn) (some bf) ⟨t.ents, upd t.fl i (some m), t.nx⟩ ∧ w.grownBy wA (some bf) := by
  obtain ⟨n, hn⟩ := hi
  obtain ⟨nf, hf, hnf⟩ := h.fl
  have hf2 : MapF w Tryz.prog 3 bf (filesF t.fl) nf := hf
  obtain ⟨wA, hA, mA, gA, sA⟩ := hf2.store intL Tryz.underlying69 (by unfold maxLen; omega) (natK i (by omega)) (ndv m)
  rw [filesF_upd, filesF_at, hn] at mA
  have hgf : g ≠ bf := blk_map_ne h.blk hf2
  have hnb := h.ne bn rfl
  refine ⟨wA, hA, ⟨h.blk.grown gA (by intro e; injection e with e; exact hgf e), MapF.kept (show MapF w Tryz.prog 9 bn (namesF t.ents) t.ents.length from h.nm) gA (by intro e; injection e with e; exact hnb (by rw [e])), ⟨nf, mA, hnf⟩, by simp, h.ne⟩, gA⟩

set_option maxRecDepth 100000 in
set_option maxHeartbeats 4000000 in
theorem change_5 {w : World} {g : Nat} {on of : Option Nat} {t : T} (h : TreeAt w g on of t) (ht : Std t) (hx : t.nx ≤ 100000) (x : Deed) (i : Nat) (hi : Tre.look t.ents x.name = some i) (hw : x.what = 5) (h1 : x.to.length ≤ 10000) :
    Calls Tryz.prog 73 #[.pointer (some ⟨g, 0, none⟩), dv x] w fun e w' => e = .returned (errV (change t x i).2) ∧ Turned w g on of (change t x i).1 w' := by
  have hg := h.blk.lt
  have hb0 : Below w.heap.size w (w.alloc (.cells (dvc x) 53)) := (Below.refl _ _).alloc (Nat.le_refl _) _
  obtain ⟨bn, bf, rfl, rfl⟩ := h.made hi
  have HT := Lib.hid h
  have hsh := ht.short hi
  have hin : i ≤ 100000 := by omega
  have HI := Lib.hid hi
  obtain ⟨_, _, mm, hmm, hmr⟩ := ht.ok _ (look_mem hi)
  have hex : ∃ n, t.fl i = some n := ⟨mm, hmm⟩
  have HEX := Lib.hid hex
  obtain ⟨m, hM⟩ : ∃ m, m = t.file i := ⟨_, rfl⟩
  have hmm2 : m = mm := by rw [hM]; unfold T.file; simp only at hmm; rw [hmm]; rfl
  have hrm : rightN m = true := by rw [hmm2]; exact hmr
  have e := change_ways t x i m hM
  rw [e]
  have hget := files_get t i
  rw [← hM] at hget
  clear e ht hi hmr hmm2 hmm hex hM h
  obtain ⟨what, name, dest, n, node⟩ := x
  obtain ⟨n0, n1, n2, n3, n4, n5, n6, n7, n8, n9⟩ := node
  obtain ⟨m0, m1, m2, m3, m4, m5, m6, m7, m8, m9⟩ := m
  simp only at hw h1
  subst hw
  have hmk : m0 ≤ 255 ∧ m7.length ≤ 10000 ∧ m6.length ≤ 10000 := by
    unfold rightN inR at hrm
    simp at hrm
    refine ⟨by omega, by omega, ?_⟩
    have := hrm.2
    split at this
    · omega
    · rw [this]; simp
  have hcd : changed ⟨m0, m1, m2, m3, m4, m5, m6, m7, m8, m9⟩ ⟨5, name, dest, n, ⟨n0, n1, n2, n3, n4, n5, n6, n7, n8, n9⟩⟩ = ⟨m0, m1, m2, m3, m4, m5, dest, m7, m8, m9⟩ := rfl
  rw [hcd]
  have RT := Lib.hid (fun w => treeRight_any ⟨m0, m1, m2, m3, m4, m5, dest, m7, m8, m9⟩ (by simp only; omega) (by simp only; omega) (by simp only; omega) w)
  obtain ⟨rr, hr⟩ : ∃ rr, rr = rightN ⟨m0, m1, m2, m3, m4, m5, dest, m7, m8, m9⟩ := ⟨_, rfl⟩
  rw [← hr] at RT ⊢
  have HG := Lib.hid hget
  have HW := Lib.hid hcd
  unfold dv dvc
  unfold dvc at hb0
  unfold ndv ndc at RT
  simp only at RT hsh hb0 ⊢
  clear hget hcd hr hrm HW
  by_cases hk : m0 = 48
  rotate_left
  · rw [if_pos ⟨trivial, hk⟩]
    have hk2 : ((m0 : Int) != 48) = true := by
      have : ((m0 : Int) == 48) = false := beq_eq_false_iff_ne.2 (by omega)
      rw [bne, this]; rfl
    clear hk
    go_enter Tryz.func73, Tryz.ntmps73
    repeat' ((fail_if_success (with_reducible refine halt_at 1 ?_)); first | go_values | go_skip | go_guarded | go_step | go_upon | go_back | (simp only [Int.not_lt, Int.not_le] at *; go_simp) | (go_values <;> (try go_simp)) | (go_ite <;> go_prune <;> (try go_simp)) | (split <;> (first | (rename_i hx; exact (hx _ rfl).elim) | go_prune)))
    have hlk1 : namesF t.ents (.string (bs name).data.toList) = some (.int .i64 i) := by rw [bs_list, namesF_at, HI.out]; rfl
    have T1 := (HT.out.below hb0).drew
    have nm2 : MapF _ Tryz.prog 9 bn (namesF t.ents) t.ents.length := T1.nm
    have hlook := nm2.look strL Tryz.underlying68 intZero (strK (bs name) (by rw [bs_size]; unfold maxLen; omega)) hlk1
    have _g0 := (HT.out.below hb0).blk.cell 0
    simp only [Option.getD_some] at hlook
    clear nm2 hlk1
    go_region
    clear hlook
    obtain ⟨w1, hw1⟩ : ∃ w1, w1 = (w.alloc (.cells #[.int .i64 5, .string (bs name), .string (bs dest), .int .i64 n, .int .u8 n0, .int .i64 n1, .int .i64 n2, .int .i64 n3, .int .i64 n4, .int .i64 n5, .string (bs n6), .string (bs n7), .int .i64 n8, .int .i64 n9] 53)).drew := ⟨_, rfl⟩
    have bb := (Blk.new w 53 #[.int .i64 5, .string (bs name), .string (bs dest), .int .i64 n, .int .u8 n0, .int .i64 n1, .int .i64 n2, .int .i64 n3, .int .i64 n4, .int .i64 n5, .string (bs n6), .string (bs n7), .int .i64 n8, .int .i64 n9]).drew
    have hB1 : Below w.heap.size w w1 := by rw [hw1]; exact hb0.drew
    rw [← hw1] at T1 bb ⊢
    have _x0 : w1.cell? ⟨w.heap.size, 0, none⟩ = some (.int .i64 5) := bb.cell 0
    have _x2 : w1.cell? ⟨w.heap.size, 2, none⟩ = some (.string (bs dest)) := bb.cell 2
    have _x3 : w1.cell? ⟨w.heap.size, 3, none⟩ = some (.int .i64 n) := bb.cell 3
    have _x6 : w1.cell? ⟨w.heap.size, 6, none⟩ = some (.int .i64 n2) := bb.cell 6
    have _x7 : w1.cell? ⟨w.heap.size, 7, none⟩ = some (.int .i64 n3) := bb.cell 7
    have _x8 : w1.cell? ⟨w.heap.size, 8, none⟩ = some (.int .i64 n4) := bb.cell 8
    have _x9 : w1.cell? ⟨w.heap.size, 9, none⟩ = some (.int .i64 n5) := bb.cell 9
    have hBl := bb.lt
    have _h1 : w1.cell? ⟨g, 1, none⟩ = some (.map (some bf)) := T1.blk.cell 1
    obtain ⟨nf, hf, hnf⟩ := T1.fl
    have HF := Lib.hid hf
    have B1 := Lib.hid hB1
    have B3 := Lib.hid (hB1.alloc hB1.size (.cells #[.int .u8 m0, .int .i64 m1, .int .i64 m2, .int .i64 m3, .int .i64 m4, .int .i64 m5, .string (bs dest), .string (bs m7), .int .i64 m8, .int .i64 m9] 33))
    clear hw1 T1 bb hB1 hf _g0
    go_wp2_with (first
      | (refine wpList_o_look rfl (.tmp 17) (.tmp 18) 69 rfl 33 intL Tryz.underlying69 ndZero HF.out rfl (.int .i64 i) (.int .i64 i) rfl (natK i (by omega)) _ rfl ?_; rw [HG.out]; unfold ndv ndc))
    go_ret
    exact ⟨rfl, Turned.still HT.out (B1.out.alloc B1.out.size _)⟩
  rw [if_neg (fun h => h.2 hk)]
  have hk2 : ((m0 : Int) != 48) = false := by
    have : ((m0 : Int) == 48) = true := by rw [hk]; rfl
    rw [bne, this]; rfl
  clear hk
  by_cases hl : 4000 < dest.length
  · rw [if_pos ⟨trivial, hl⟩]
    have hl2 : (4000 : Int) < (bs dest).size := by rw [bs_size]; omega
    go_enter Tryz.func73, Tryz.ntmps73
    repeat' ((fail_if_success (with_reducible refine halt_at 1 ?_)); first | go_values | go_skip | go_guarded | go_step | go_upon | go_back | (simp only [Int.not_lt, Int.not_le] at *; go_simp) | (go_values <;> (try go_simp)) | (go_ite <;> go_prune <;> (try go_simp)) | (split <;> (first | (rename_i hx; exact (hx _ rfl).elim) | go_prune)))
    have hlk1 : namesF t.ents (.string (bs name).data.toList) = some (.int .i64 i) := by rw [bs_list, namesF_at, HI.out]; rfl
    have T1 := (HT.out.below hb0).drew
    have nm2 : MapF _ Tryz.prog 9 bn (namesF t.ents) t.ents.length := T1.nm
    have hlook := nm2.look strL Tryz.underlying68 intZero (strK (bs name) (by rw [bs_size]; unfold maxLen; omega)) hlk1
    have _g0 := (HT.out.below hb0).blk.cell 0
    simp only [Option.getD_some] at hlook
    clear nm2 hlk1
    go_region
    clear hlook
    obtain ⟨w1, hw1⟩ : ∃ w1, w1 = (w.alloc (.cells #[.int .i64 5, .string (bs name), .string (bs dest), .int .i64 n, .int .u8 n0, .int .i64 n1, .int .i64 n2, .int .i64 n3, .int .i64 n4, .int .i64 n5, .string (bs n6), .string (bs n7), .int .i64 n8, .int .i64 n9] 53)).drew := ⟨_, rfl⟩
    have bb := (Blk.new w 53 #[.int .i64 5, .string (bs name), .string (bs dest), .int .i64 n, .int .u8 n0, .int .i64 n1, .int .i64 n2, .int .i64 n3, .int .i64 n4, .int .i64 n5, .string (bs n6), .string (bs n7), .int .i64 n8, .int .i64 n9]).drew
    have hB1 : Below w.heap.size w w1 := by rw [hw1]; exact hb0.drew
    rw [← hw1] at T1 bb ⊢
    have _x0 : w1.cell? ⟨w.heap.size, 0, none⟩ = some (.int .i64 5) := bb.cell 0
    have _x2 : w1.cell? ⟨w.heap.size, 2, none⟩ = some (.string (bs dest)) := bb.cell 2
    have _x3 : w1.cell? ⟨w.heap.size, 3, none⟩ = some (.int .i64 n) := bb.cell 3
    have _x6 : w1.cell? ⟨w.heap.size, 6, none⟩ = some (.int .i64 n2) := bb.cell 6
    have _x7 : w1.cell? ⟨w.heap.size, 7, none⟩ = some (.int .i64 n3) := bb.cell 7
    have _x8 : w1.cell? ⟨w.heap.size, 8, none⟩ = some (.int .i64 n4) := bb.cell 8
    have _x9 : w1.cell? ⟨w.heap.size, 9, none⟩ = some (.int .i64 n5) := bb.cell 9
    have hBl := bb.lt
    have _h1 : w1.cell? ⟨g, 1, none⟩ = some (.map (some bf)) := T1.blk.cell 1
    obtain ⟨nf, hf, hnf⟩ := T1.fl
    have HF := Lib.hid hf
    have B1 := Lib.hid hB1
    have B3 := Lib.hid (hB1.alloc hB1.size (.cells #[.int .u8 m0, .int .i64 m1, .int .i64 m2, .int .i64 m3, .int .i64 m4, .int .i64 m5, .string (bs dest), .string (bs m7), .int .i64 m8, .int .i64 m9] 33))
    clear hw1 T1 bb hB1 hf _g0
    go_wp2_with (first
      | (refine wpList_o_look rfl (.tmp 17) (.tmp 18) 69 rfl 33 intL Tryz.underlying69 ndZero HF.out rfl (.int .i64 i) (.int .i64 i) rfl (natK i (by omega)) _ rfl ?_; rw [HG.out]; unfold ndv ndc))
    go_ret
    exact ⟨rfl, Turned.still HT.out (B1.out.alloc B1.out.size _)⟩
  rw [if_neg (fun h => hl h.2)]
  have hl2 : ¬ (4000 : Int) < (bs dest).size := by rw [bs_size]; omega
  cases rr with
  | false =>
    rw [if_pos rfl]
    go_enter Tryz.func73, Tryz.ntmps73
    repeat' ((fail_if_success (with_reducible refine halt_at 1 ?_)); first | go_values | go_skip | go_guarded | go_step | go_upon | go_back | (simp only [Int.not_lt, Int.not_le] at *; go_simp) | (go_values <;> (try go_simp)) | (go_ite <;> go_prune <;> (try go_simp)) | (split <;> (first | (rename_i hx; exact (hx _ rfl).elim) | go_prune)))
    have hlk1 : namesF t.ents (.string (bs name).data.toList) = some (.int .i64 i) := by rw [bs_list, namesF_at, HI.out]; rfl
    have T1 := (HT.out.below hb0).drew
    have nm2 : MapF _ Tryz.prog 9 bn (namesF t.ents) t.ents.length := T1.nm
    have hlook := nm2.look strL Tryz.underlying68 intZero (strK (bs name) (by rw [bs_size]; unfold maxLen; omega)) hlk1
    have _g0 := (HT.out.below hb0).blk.cell 0
    simp only [Option.getD_some] at hlook
    clear nm2 hlk1
    go_region
    clear hlook
    obtain ⟨w1, hw1⟩ : ∃ w1, w1 = (w.alloc (.cells #[.int .i64 5, .string (bs name), .string (bs dest), .int .i64 n, .int .u8 n0, .int .i64 n1, .int .i64 n2, .int .i64 n3, .int .i64 n4, .int .i64 n5, .string (bs n6), .string (bs n7), .int .i64 n8, .int .i64 n9] 53)).drew := ⟨_, rfl⟩
    have bb := (Blk.new w 53 #[.int .i64 5, .string (bs name), .string (bs dest), .int .i64 n, .int .u8 n0, .int .i64 n1, .int .i64 n2, .int .i64 n3, .int .i64 n4, .int .i64 n5, .string (bs n6), .string (bs n7), .int .i64 n8, .int .i64 n9]).drew
    have hB1 : Below w.heap.size w w1 := by rw [hw1]; exact hb0.drew
    rw [← hw1] at T1 bb ⊢
    have _x0 : w1.cell? ⟨w.heap.size, 0, none⟩ = some (.int .i64 5) := bb.cell 0
    have _x2 : w1.cell? ⟨w.heap.size, 2, none⟩ = some (.string (bs dest)) := bb.cell 2
    have _x3 : w1.cell? ⟨w.heap.size, 3, none⟩ = some (.int .i64 n) := bb.cell 3
    have _x6 : w1.cell? ⟨w.heap.size, 6, none⟩ = some (.int .i64 n2) := bb.cell 6
    have _x7 : w1.cell? ⟨w.heap.size, 7, none⟩ = some (.int .i64 n3) := bb.cell 7
    have _x8 : w1.cell? ⟨w.heap.size, 8, none⟩ = some (.int .i64 n4) := bb.cell 8
    have _x9 : w1.cell? ⟨w.heap.size, 9, none⟩ = some (.int .i64 n5) := bb.cell 9
    have hBl := bb.lt
    have _h1 : w1.cell? ⟨g, 1, none⟩ = some (.map (some bf)) := T1.blk.cell 1
    obtain ⟨nf, hf, hnf⟩ := T1.fl
    have HF := Lib.hid hf
    have B1 := Lib.hid hB1
    have B3 := Lib.hid (hB1.alloc hB1.size (.cells #[.int .u8 m0, .int .i64 m1, .int .i64 m2, .int .i64 m3, .int .i64 m4, .int .i64 m5, .string (bs dest), .string (bs m7), .int .i64 m8, .int .i64 m9] 33))
    clear hw1 T1 bb hB1 hf _g0
    go_wp2_with (first
      | (refine wpList_o_look rfl (.tmp 17) (.tmp 18) 69 rfl 33 intL Tryz.underlying69 ndZero HF.out rfl (.int .i64 i) (.int .i64 i) rfl (natK i (by omega)) _ rfl ?_; rw [HG.out]; unfold ndv ndc))
    refine (RT.out _).mono ?_
    rintro e w4 ⟨rfl, k4⟩
    have B4 := Lib.hid (thenB B3.out k4)
    clear k4
    go_wp2_with fail
    go_ret
    exact ⟨rfl, Turned.still HT.out B4.out⟩
  | true =>
    rw [if_neg (by simp)]
    go_enter Tryz.func73, Tryz.ntmps73
    repeat' ((fail_if_success (with_reducible refine halt_at 1 ?_)); first | go_values | go_skip | go_guarded | go_step | go_upon | go_back | (simp only [Int.not_lt, Int.not_le] at *; go_simp) | (go_values <;> (try go_simp)) | (go_ite <;> go_prune <;> (try go_simp)) | (split <;> (first | (rename_i hx; exact (hx _ rfl).elim) | go_prune)))
    have hlk1 : namesF t.ents (.string (bs name).data.toList) = some (.int .i64 i) := by rw [bs_list, namesF_at, HI.out]; rfl
    have T1 := (HT.out.below hb0).drew
    have nm2 : MapF _ Tryz.prog 9 bn (namesF t.ents) t.ents.length := T1.nm
    have hlook := nm2.look strL Tryz.underlying68 intZero (strK (bs name) (by rw [bs_size]; unfold maxLen; omega)) hlk1
    have _g0 := (HT.out.below hb0).blk.cell 0
    simp only [Option.getD_some] at hlook
    clear nm2 hlk1
    go_region
    clear hlook
    obtain ⟨w1, hw1⟩ : ∃ w1, w1 = (w.alloc (.cells #[.int .i64 5, .string (bs name), .string (bs dest), .int .i64 n, .int .u8 n0, .int .i64 n1, .int .i64 n2, .int .i64 n3, .int .i64 n4, .int .i64 n5, .string (bs n6), .string (bs n7), .int .i64 n8, .int .i64 n9] 53)).drew := ⟨_, rfl⟩
    have bb := (Blk.new w 53 #[.int .i64 5, .string (bs name), .string (bs dest), .int .i64 n, .int .u8 n0, .int .i64 n1, .int .i64 n2, .int .i64 n3, .int .i64 n4, .int .i64 n5, .string (bs n6), .string (bs n7), .int .i64 n8, .int .i64 n9]).drew
    have hB1 : Below w.heap.size w w1 := by rw [hw1]; exact hb0.drew
    rw [← hw1] at T1 bb ⊢
    have _x0 : w1.cell? ⟨w.heap.size, 0, none⟩ = some (.int .i64 5) := bb.cell 0
    have _x2 : w1.cell? ⟨w.heap.size, 2, none⟩ = some (.string (bs dest)) := bb.cell 2
    have _x3 : w1.cell? ⟨w.heap.size, 3, none⟩ = some (.int .i64 n) := bb.cell 3
    have _x6 : w1.cell? ⟨w.heap.size, 6, none⟩ = some (.int .i64 n2) := bb.cell 6
    have _x7 : w1.cell? ⟨w.heap.size, 7, none⟩ = some (.int .i64 n3) := bb.cell 7
    have _x8 : w1.cell? ⟨w.heap.size, 8, none⟩ = some (.int .i64 n4) := bb.cell 8
    have _x9 : w1.cell? ⟨w.heap.size, 9, none⟩ = some (.int .i64 n5) := bb.cell 9
    have hBl := bb.lt
    have _h1 : w1.cell? ⟨g, 1, none⟩ = some (.map (some bf)) := T1.blk.cell 1
    obtain ⟨nf, hf, hnf⟩ := T1.fl
    have HF := Lib.hid hf
    have B1 := Lib.hid hB1
    have B3 := Lib.hid (hB1.alloc hB1.size (.cells #[.int .u8 m0, .int .i64 m1, .int .i64 m2, .int .i64 m3, .int .i64 m4, .int .i64 m5, .string (bs dest), .string (bs m7), .int .i64 m8, .int .i64 m9] 33))
    clear hw1 T1 bb hB1 hf _g0
    go_wp2_with (first
      | (refine wpList_o_look rfl (.tmp 17) (.tmp 18) 69 rfl 33 intL Tryz.underlying69 ndZero HF.out rfl (.int .i64 i) (.int .i64 i) rfl (natK i (by omega)) _ rfl ?_; rw [HG.out]; unfold ndv ndc))
    refine (RT.out _).mono ?_
    rintro e w4 ⟨rfl, k4⟩
    have B4 := Lib.hid (thenB B3.out k4)
    have nb := (Blk.new w1 33 #[.int .u8 m0, .int .i64 m1, .int .i64 m2, .int .i64 m3, .int .i64 m4, .int .i64 m5, .string (bs dest), .string (bs m7), .int .i64 m8, .int .i64 m9]).below k4 (by simp)
    have T4 := HT.out.below B4.out
    have _d0 : w4.cell? ⟨w1.heap.size, 0, none⟩ = some (.int .u8 m0) := nb.cell 0
    have _d1 : w4.cell? ⟨w1.heap.size, 1, none⟩ = some (.int .i64 m1) := nb.cell 1
    have _d2 : w4.cell? ⟨w1.heap.size, 2, none⟩ = some (.int .i64 m2) := nb.cell 2
    have _d3 : w4.cell? ⟨w1.heap.size, 3, none⟩ = some (.int .i64 m3) := nb.cell 3
    have _d4 : w4.cell? ⟨w1.heap.size, 4, none⟩ = some (.int .i64 m4) := nb.cell 4
    have _d5 : w4.cell? ⟨w1.heap.size, 5, none⟩ = some (.int .i64 m5) := nb.cell 5
    have _d6 : w4.cell? ⟨w1.heap.size, 6, none⟩ = some (.string (bs dest)) := nb.cell 6
    have _d7 : w4.cell? ⟨w1.heap.size, 7, none⟩ = some (.string (bs m7)) := nb.cell 7
    have _d8 : w4.cell? ⟨w1.heap.size, 8, none⟩ = some (.int .i64 m8) := nb.cell 8
    have _d9 : w4.cell? ⟨w1.heap.size, 9, none⟩ = some (.int .i64 m9) := nb.cell 9
    have _g1 : w4.cell? ⟨g, 1, none⟩ = some (.map (some bf)) := T4.blk.cell 1
    obtain ⟨wA, hA, tA, gA⟩ := file_told (w' := w4) T4.drew HEX.out hx hin ⟨m0, m1, m2, m3, m4, m5, dest, m7, m8, m9⟩
    unfold ndv ndc at hA
    simp only at hA
    have FIN : Turned w g (some bn) (some bf) ⟨t.ents, upd t.fl i (some ⟨m0, m1, m2, m3, m4, m5, dest, m7, m8, m9⟩), t.nx⟩ wA :=
      ⟨some bn, some bf, tA, fun b hb => .inl hb, (Kept.of_below B4.out).drew.grown gA (.inl (by simp [own]))⟩
    have FN := Lib.hid FIN
    clear FIN tA gA T4 nb k4
    repeat' ((fail_if_success (with_reducible refine halt_at 18 ?_)); first | go_values | go_skip | go_guarded | go_step | go_upon | go_back | (simp only [Int.not_lt, Int.not_le] at *; go_simp) | (go_values <;> (try go_simp)) | (go_ite <;> go_prune <;> (try go_simp)) | (split <;> (first | (rename_i hx; exact (hx _ rfl).elim) | go_prune)))
    go_region
    all_goals go_wp2_with fail
    all_goals go_ret
    all_goals exact ⟨rfl, FN.out⟩

set_option maxRecDepth 100000 in
set_option maxHeartbeats 4000000 in
theorem change_6 {w : World} {g : Nat} {on of : Option Nat} {t : T} (h : TreeAt w g on of t) (ht : Std t) (hx : t.nx ≤ 100000) (x : Deed) (i : Nat) (hi : Tre.look t.ents x.name = some i) (hw : x.what = 6) (h1 : x.to.length ≤ 10000) :
    Calls Tryz.prog 73 #[.pointer (some ⟨g, 0, none⟩), dv x] w fun e w' => e = .returned (errV (change t x i).2) ∧ Turned w g on of (change t x i).1 w' := by
  have hg := h.blk.lt
  have hb0 : Below w.heap.size w (w.alloc (.cells (dvc x) 53)) := (Below.refl _ _).alloc (Nat.le_refl _) _
  obtain ⟨bn, bf, rfl, rfl⟩ := h.made hi
  have HT := Lib.hid h
  have hsh := ht.short hi
  have hin : i ≤ 100000 := by omega
  have HI := Lib.hid hi
  obtain ⟨_, _, mm, hmm, hmr⟩ := ht.ok _ (look_mem hi)
  have hex : ∃ n, t.fl i = some n := ⟨mm, hmm⟩
  have HEX := Lib.hid hex
  obtain ⟨m, hM⟩ : ∃ m, m = t.file i := ⟨_, rfl⟩
  have hmm2 : m = mm := by rw [hM]; unfold T.file; simp only at hmm; rw [hmm]; rfl
  have hrm : rightN m = true := by rw [hmm2]; exact hmr
  have e := change_ways t x i m hM
  rw [e]
  have hget := files_get t i
  rw [← hM] at hget
  clear e ht hi hmr hmm2 hmm hex hM h
  obtain ⟨what, name, dest, n, node⟩ := x
  obtain ⟨n0, n1, n2, n3, n4, n5, n6, n7, n8, n9⟩ := node
  obtain ⟨m0, m1, m2, m3, m4, m5, m6, m7, m8, m9⟩ := m
  simp only at hw h1
  subst hw
  have hmk : m0 ≤ 255 ∧ m7.length ≤ 10000 ∧ m6.length ≤ 10000 := by
    unfold rightN inR at hrm
    simp at hrm
    refine ⟨by omega, by omega, ?_⟩
    have := hrm.2
    split at this
    · omega
    · rw [this]; simp
  have hcd : changed ⟨m0, m1, m2, m3, m4, m5, m6, m7, m8, m9⟩ ⟨6, name, dest, n, ⟨n0, n1, n2, n3, n4, n5, n6, n7, n8, n9⟩⟩ = ⟨m0, n, m2, m3, m4, m5, m6, m7, m8, m9⟩ := rfl
  rw [hcd]
  have RT := Lib.hid (fun w => treeRight_any ⟨m0, n, m2, m3, m4, m5, m6, m7, m8, m9⟩ (by simp only; omega) (by simp only; omega) (by simp only; omega) w)
  obtain ⟨rr, hr⟩ : ∃ rr, rr = rightN ⟨m0, n, m2, m3, m4, m5, m6, m7, m8, m9⟩ := ⟨_, rfl⟩
  rw [← hr] at RT ⊢
  have HG := Lib.hid hget
  have HW := Lib.hid hcd
  unfold dv dvc
  unfold dvc at hb0
  unfold ndv ndc at RT
  simp only at RT hsh hb0 ⊢
  clear hget hcd hr hrm HW
  rw [if_neg (fun h => absurd h.1 (by decide)), if_neg (fun h => absurd h.1 (by decide))]
  cases rr with
  | false =>
    rw [if_pos rfl]
    go_enter Tryz.func73, Tryz.ntmps73
    repeat' ((fail_if_success (with_reducible refine halt_at 1 ?_)); first | go_values | go_skip | go_guarded | go_step | go_upon | go_back | (simp only [Int.not_lt, Int.not_le] at *; go_simp) | (go_values <;> (try go_simp)) | (go_ite <;> go_prune <;> (try go_simp)) | (split <;> (first | (rename_i hx; exact (hx _ rfl).elim) | go_prune)))
    have hlk1 : namesF t.ents (.string (bs name).data.toList) = some (.int .i64 i) := by rw [bs_list, namesF_at, HI.out]; rfl
    have T1 := (HT.out.below hb0).drew
    have nm2 : MapF _ Tryz.prog 9 bn (namesF t.ents) t.ents.length := T1.nm
    have hlook := nm2.look strL Tryz.underlying68 intZero (strK (bs name) (by rw [bs_size]; unfold maxLen; omega)) hlk1
    have _g0 := (HT.out.below hb0).blk.cell 0
    simp only [Option.getD_some] at hlook
    clear nm2 hlk1
    go_region
    clear hlook
    obtain ⟨w1, hw1⟩ : ∃ w1, w1 = (w.alloc (.cells #[.int .i64 6, .string (bs name), .string (bs dest), .int .i64 n, .int .u8 n0, .int .i64 n1, .int .i64 n2, .int .i64 n3, .int .i64 n4, .int .i64 n5, .string (bs n6), .string (bs n7), .int .i64 n8, .int .i64 n9] 53)).drew := ⟨_, rfl⟩
    have bb := (Blk.new w 53 #[.int .i64 6, .string (bs name), .string (bs dest), .int .i64 n, .int .u8 n0, .int .i64 n1, .int .i64 n2, .int .i64 n3, .int .i64 n4, .int .i64 n5, .string (bs n6), .string (bs n7), .int .i64 n8, .int .i64 n9]).drew
    have hB1 : Below w.heap.size w w1 := by rw [hw1]; exact hb0.drew
    rw [← hw1] at T1 bb ⊢
    have _x0 : w1.cell? ⟨w.heap.size, 0, none⟩ = some (.int .i64 6) := bb.cell 0
    have _x2 : w1.cell? ⟨w.heap.size, 2, none⟩ = some (.string (bs dest)) := bb.cell 2
    have _x3 : w1.cell? ⟨w.heap.size, 3, none⟩ = some (.int .i64 n) := bb.cell 3
    have _x6 : w1.cell? ⟨w.heap.size, 6, none⟩ = some (.int .i64 n2) := bb.cell 6
    have _x7 : w1.cell? ⟨w.heap.size, 7, none⟩ = some (.int .i64 n3) := bb.cell 7
    have _x8 : w1.cell? ⟨w.heap.size, 8, none⟩ = some (.int .i64 n4) := bb.cell 8
    have _x9 : w1.cell? ⟨w.heap.size, 9, none⟩ = some (.int .i64 n5) := bb.cell 9
    have hBl := bb.lt
    have _h1 : w1.cell? ⟨g, 1, none⟩ = some (.map (some bf)) := T1.blk.cell 1
    obtain ⟨nf, hf, hnf⟩ := T1.fl
    have HF := Lib.hid hf
    have B1 := Lib.hid hB1
    have B3 := Lib.hid (hB1.alloc hB1.size (.cells #[.int .u8 m0, .int .i64 n, .int .i64 m2, .int .i64 m3, .int .i64 m4, .int .i64 m5, .string (bs m6), .string (bs m7), .int .i64 m8, .int .i64 m9] 33))
    clear hw1 T1 bb hB1 hf _g0
    go_wp2_with (first
      | (refine wpList_o_look rfl (.tmp 17) (.tmp 18) 69 rfl 33 intL Tryz.underlying69 ndZero HF.out rfl (.int .i64 i) (.int .i64 i) rfl (natK i (by omega)) _ rfl ?_; rw [HG.out]; unfold ndv ndc))
    refine (RT.out _).mono ?_
    rintro e w4 ⟨rfl, k4⟩
    have B4 := Lib.hid (thenB B3.out k4)
    clear k4
    go_wp2_with fail
    go_ret
    exact ⟨rfl, Turned.still HT.out B4.out⟩
  | true =>
    rw [if_neg (by simp)]
    go_enter Tryz.func73, Tryz.ntmps73
    repeat' ((fail_if_success (with_reducible refine halt_at 1 ?_)); first | go_values | go_skip | go_guarded | go_step | go_upon | go_back | (simp only [Int.not_lt, Int.not_le] at *; go_simp) | (go_values <;> (try go_simp)) | (go_ite <;> go_prune <;> (try go_simp)) | (split <;> (first | (rename_i hx; exact (hx _ rfl).elim) | go_prune)))
    have hlk1 : namesF t.ents (.string (bs name).data.toList) = some (.int .i64 i) := by rw [bs_list, namesF_at, HI.out]; rfl
    have T1 := (HT.out.below hb0).drew
    have nm2 : MapF _ Tryz.prog 9 bn (namesF t.ents) t.ents.length := T1.nm
    have hlook := nm2.look strL Tryz.underlying68 intZero (strK (bs name) (by rw [bs_size]; unfold maxLen; omega)) hlk1
    have _g0 := (HT.out.below hb0).blk.cell 0
    simp only [Option.getD_some] at hlook
    clear nm2 hlk1
    go_region
    clear hlook
    obtain ⟨w1, hw1⟩ : ∃ w1, w1 = (w.alloc (.cells #[.int .i64 6, .string (bs name), .string (bs dest), .int .i64 n, .int .u8 n0, .int .i64 n1, .int .i64 n2, .int .i64 n3, .int .i64 n4, .int .i64 n5, .string (bs n6), .string (bs n7), .int .i64 n8, .int .i64 n9] 53)).drew := ⟨_, rfl⟩
    have bb := (Blk.new w 53 #[.int .i64 6, .string (bs name), .string (bs dest), .int .i64 n, .int .u8 n0, .int .i64 n1, .int .i64 n2, .int .i64 n3, .int .i64 n4, .int .i64 n5, .string (bs n6), .string (bs n7), .int .i64 n8, .int .i64 n9]).drew
    have hB1 : Below w.heap.size w w1 := by rw [hw1]; exact hb0.drew
    rw [← hw1] at T1 bb ⊢
    have _x0 : w1.cell? ⟨w.heap.size, 0, none⟩ = some (.int .i64 6) := bb.cell 0
    have _x2 : w1.cell? ⟨w.heap.size, 2, none⟩ = some (.string (bs dest)) := bb.cell 2
    have _x3 : w1.cell? ⟨w.heap.size, 3, none⟩ = some (.int .i64 n) := bb.cell 3
    have _x6 : w1.cell? ⟨w.heap.size, 6, none⟩ = some (.int .i64 n2) := bb.cell 6
    have _x7 : w1.cell? ⟨w.heap.size, 7, none⟩ = some (.int .i64 n3) := bb.cell 7
    have _x8 : w1.cell? ⟨w.heap.size, 8, none⟩ = some (.int .i64 n4) := bb.cell 8
    have _x9 : w1.cell? ⟨w.heap.size, 9, none⟩ = some (.int .i64 n5) := bb.cell 9
    have hBl := bb.lt
    have _h1 : w1.cell? ⟨g, 1, none⟩ = some (.map (some bf)) := T1.blk.cell 1
    obtain ⟨nf, hf, hnf⟩ := T1.fl
    have HF := Lib.hid hf
    have B1 := Lib.hid hB1
    have B3 := Lib.hid (hB1.alloc hB1.size (.cells #[.int .u8 m0, .int .i64 n, .int .i64 m2, .int .i64 m3, .int .i64 m4, .int .i64 m5, .string (bs m6), .string (bs m7), .int .i64 m8, .int .i64 m9] 33))
    clear hw1 T1 bb hB1 hf _g0
    go_wp2_with (first
      | (refine wpList_o_look rfl (.tmp 17) (.tmp 18) 69 rfl 33 intL Tryz.underlying69 ndZero HF.out rfl (.int .i64 i) (.int .i64 i) rfl (natK i (by omega)) _ rfl ?_; rw [HG.out]; unfold ndv ndc))
    refine (RT.out _).mono ?_
    rintro e w4 ⟨rfl, k4⟩
    have B4 := Lib.hid (thenB B3.out k4)
    have nb := (Blk.new w1 33 #[.int .u8 m0, .int .i64 n, .int .i64 m2, .int .i64 m3, .int .i64 m4, .int .i64 m5, .string (bs m6), .string (bs m7), .int .i64 m8, .int .i64 m9]).below k4 (by simp)
    have T4 := HT.out.below B4.out
    have _d0 : w4.cell? ⟨w1.heap.size, 0, none⟩ = some (.int .u8 m0) := nb.cell 0
    have _d1 : w4.cell? ⟨w1.heap.size, 1, none⟩ = some (.int .i64 n) := nb.cell 1
    have _d2 : w4.cell? ⟨w1.heap.size, 2, none⟩ = some (.int .i64 m2) := nb.cell 2
    have _d3 : w4.cell? ⟨w1.heap.size, 3, none⟩ = some (.int .i64 m3) := nb.cell 3
    have _d4 : w4.cell? ⟨w1.heap.size, 4, none⟩ = some (.int .i64 m4) := nb.cell 4
    have _d5 : w4.cell? ⟨w1.heap.size, 5, none⟩ = some (.int .i64 m5) := nb.cell 5
    have _d6 : w4.cell? ⟨w1.heap.size, 6, none⟩ = some (.string (bs m6)) := nb.cell 6
    have _d7 : w4.cell? ⟨w1.heap.size, 7, none⟩ = some (.string (bs m7)) := nb.cell 7
    have _d8 : w4.cell? ⟨w1.heap.size, 8, none⟩ = some (.int .i64 m8) := nb.cell 8
    have _d9 : w4.cell? ⟨w1.heap.size, 9, none⟩ = some (.int .i64 m9) := nb.cell 9
    have _g1 : w4.cell? ⟨g, 1, none⟩ = some (.map (some bf)) := T4.blk.cell 1
    obtain ⟨wA, hA, tA, gA⟩ := file_told (w' := w4) T4.drew HEX.out hx hin ⟨m0, n, m2, m3, m4, m5, m6, m7, m8, m9⟩
    unfold ndv ndc at hA
    simp only at hA
    have FIN : Turned w g (some bn) (some bf) ⟨t.ents, upd t.fl i (some ⟨m0, n, m2, m3, m4, m5, m6, m7, m8, m9⟩), t.nx⟩ wA :=
      ⟨some bn, some bf, tA, fun b hb => .inl hb, (Kept.of_below B4.out).drew.grown gA (.inl (by simp [own]))⟩
    have FN := Lib.hid FIN
    clear FIN tA gA T4 nb k4
    repeat' ((fail_if_success (with_reducible refine halt_at 18 ?_)); first | go_values | go_skip | go_guarded | go_step | go_upon | go_back | (simp only [Int.not_lt, Int.not_le] at *; go_simp) | (go_values <;> (try go_simp)) | (go_ite <;> go_prune <;> (try go_simp)) | (split <;> (first | (rename_i hx; exact (hx _ rfl).elim) | go_prune)))
    go_region
    all_goals go_wp2_with fail
    all_goals go_ret
    all_goals exact ⟨rfl, FN.out⟩

set_option maxRecDepth 100000 in
set_option maxHeartbeats 4000000 in
theorem change_7 {w : World} {g : Nat} {on of : Option Nat} {t : T} (h : TreeAt w g on of t) (ht : Std t) (hx : t.nx ≤ 100000) (x : Deed) (i : Nat) (hi : Tre.look t.ents x.name = some i) (hw : x.what = 7) (h1 : x.to.length ≤ 10000) :
    Calls Tryz.prog 73 #[.pointer (some ⟨g, 0, none⟩), dv x] w fun e w' => e = .returned (errV (change t x i).2) ∧ Turned w g on of (change t x i).1 w' := by
  have hg := h.blk.lt
  have hb0 : Below w.heap.size w (w.alloc (.cells (dvc x) 53)) := (Below.refl _ _).alloc (Nat.le_refl _) _
  obtain ⟨bn, bf, rfl, rfl⟩ := h.made hi
  have HT := Lib.hid h
  have hsh := ht.short hi
  have hin : i ≤ 100000 := by omega
  have HI := Lib.hid hi
  obtain ⟨_, _, mm, hmm, hmr⟩ := ht.ok _ (look_mem hi)
  have hex : ∃ n, t.fl i = some n := ⟨mm, hmm⟩
  have HEX := Lib.hid hex
  obtain ⟨m, hM⟩ : ∃ m, m = t.file i := ⟨_, rfl⟩
  have hmm2 : m = mm := by rw [hM]; unfold T.file; simp only at hmm; rw [hmm]; rfl
  have hrm : rightN m = true := by rw [hmm2]; exact hmr
  have e := change_ways t x i m hM
  rw [e]
  have hget := files_get t i
  rw [← hM] at hget
  clear e ht hi hmr hmm2 hmm hex hM h
  obtain ⟨what, name, dest, n, node⟩ := x
  obtain ⟨n0, n1, n2, n3, n4, n5, n6, n7, n8, n9⟩ := node
  obtain ⟨m0, m1, m2, m3, m4, m5, m6, m7, m8, m9⟩ := m
  simp only at hw h1
  subst hw
  have hmk : m0 ≤ 255 ∧ m7.length ≤ 10000 ∧ m6.length ≤ 10000 := by
    unfold rightN inR at hrm
    simp at hrm
    refine ⟨by omega, by omega, ?_⟩
    have := hrm.2
    split at this
    · omega
    · rw [this]; simp
  have hcd : changed ⟨m0, m1, m2, m3, m4, m5, m6, m7, m8, m9⟩ ⟨7, name, dest, n, ⟨n0, n1, n2, n3, n4, n5, n6, n7, n8, n9⟩⟩ = ⟨m0, m1, n2, n3, m4, m5, m6, m7, m8, m9⟩ := rfl
  rw [hcd]
  have RT := Lib.hid (fun w => treeRight_any ⟨m0, m1, n2, n3, m4, m5, m6, m7, m8, m9⟩ (by simp only; omega) (by simp only; omega) (by simp only; omega) w)
  obtain ⟨rr, hr⟩ : ∃ rr, rr = rightN ⟨m0, m1, n2, n3, m4, m5, m6, m7, m8, m9⟩ := ⟨_, rfl⟩
  rw [← hr] at RT ⊢
  have HG := Lib.hid hget
  have HW := Lib.hid hcd
  unfold dv dvc
  unfold dvc at hb0
  unfold ndv ndc at RT
  simp only at RT hsh hb0 ⊢
  clear hget hcd hr hrm HW
  rw [if_neg (fun h => absurd h.1 (by decide)), if_neg (fun h => absurd h.1 (by decide))]
  cases rr with
  | false =>
    rw [if_pos rfl]
    go_enter Tryz.func73, Tryz.ntmps73
    repeat' ((fail_if_success (with_reducible refine halt_at 1 ?_)); first | go_values | go_skip | go_guarded | go_step | go_upon | go_back | (simp only [Int.not_lt, Int.not_le] at *; go_simp) | (go_values <;> (try go_simp)) | (go_ite <;> go_prune <;> (try go_simp)) | (split <;> (first | (rename_i hx; exact (hx _ rfl).elim) | go_prune)))
    have hlk1 : namesF t.ents (.string (bs name).data.toList) = some (.int .i64 i) := by rw [bs_list, namesF_at, HI.out]; rfl
    have T1 := (HT.out.below hb0).drew
    have nm2 : MapF _ Tryz.prog 9 bn (namesF t.ents) t.ents.length := T1.nm
    have hlook := nm2.look strL Tryz.underlying68 intZero (strK (bs name) (by rw [bs_size]; unfold maxLen; omega)) hlk1
    have _g0 := (HT.out.below hb0).blk.cell 0
    simp only [Option.getD_some] at hlook
    clear nm2 hlk1
    go_region
    clear hlook
    obtain ⟨w1, hw1⟩ : ∃ w1, w1 = (w.alloc (.cells #[.int .i64 7, .string (bs name), .string (bs dest), .int .i64 n, .int .u8 n0, .int .i64 n1, .int .i64 n2, .int .i64 n3, .int .i64 n4, .int .i64 n5, .string (bs n6), .string (bs n7), .int .i64 n8, .int .i64 n9] 53)).drew := ⟨_, rfl⟩
    have bb := (Blk.new w 53 #[.int .i64 7, .string (bs name), .string (bs dest), .int .i64 n, .int .u8 n0, .int .i64 n1, .int .i64 n2, .int .i64 n3, .int .i64 n4, .int .i64 n5, .string (bs n6), .string (bs n7), .int .i64 n8, .int .i64 n9]).drew
    have hB1 : Below w.heap.size w w1 := by rw [hw1]; exact hb0.drew
    rw [← hw1] at T1 bb ⊢
    have _x0 : w1.cell? ⟨w.heap.size, 0, none⟩ = some (.int .i64 7) := bb.cell 0
    have _x2 : w1.cell? ⟨w.heap.size, 2, none⟩ = some (.string (bs dest)) := bb.cell 2
    have _x3 : w1.cell? ⟨w.heap.size, 3, none⟩ = some (.int .i64 n) := bb.cell 3
    have _x6 : w1.cell? ⟨w.heap.size, 6, none⟩ = some (.int .i64 n2) := bb.cell 6
    have _x7 : w1.cell? ⟨w.heap.size, 7, none⟩ = some (.int .i64 n3) := bb.cell 7
    have _x8 : w1.cell? ⟨w.heap.size, 8, none⟩ = some (.int .i64 n4) := bb.cell 8
    have _x9 : w1.cell? ⟨w.heap.size, 9, none⟩ = some (.int .i64 n5) := bb.cell 9
    have hBl := bb.lt
    have _h1 : w1.cell? ⟨g, 1, none⟩ = some (.map (some bf)) := T1.blk.cell 1
    obtain ⟨nf, hf, hnf⟩ := T1.fl
    have HF := Lib.hid hf
    have B1 := Lib.hid hB1
    have B3 := Lib.hid (hB1.alloc hB1.size (.cells #[.int .u8 m0, .int .i64 m1, .int .i64 n2, .int .i64 n3, .int .i64 m4, .int .i64 m5, .string (bs m6), .string (bs m7), .int .i64 m8, .int .i64 m9] 33)).drew
    clear hw1 T1 bb hB1 hf _g0
    repeat' ((fail_if_success (with_reducible refine halt_at 13 ?_)); first
      | (refine wpList_o_look rfl (.tmp 17) (.tmp 18) 69 rfl 33 intL Tryz.underlying69 ndZero HF.out rfl (.int .i64 i) (.int .i64 i) rfl (natK i (by omega)) _ rfl ?_; rw [HG.out]; unfold ndv ndc)
      | go_values | go_skip | go_guarded | go_step | go_upon | go_back | (simp only [Int.not_lt, Int.not_le] at *; go_simp) | (go_values <;> (try go_simp)) | (go_ite <;> go_prune <;> (try go_simp)) | (split <;> (first | (rename_i hx; exact (hx _ rfl).elim) | go_prune)))
    go_region
    go_wp2_with fail
    refine (RT.out _).mono ?_
    rintro e w4 ⟨rfl, k4⟩
    have B4 := Lib.hid (thenB B3.out k4)
    clear k4
    go_wp2_with fail
    go_ret
    exact ⟨rfl, Turned.still HT.out B4.out⟩
  | true =>
    rw [if_neg (by simp)]
    go_enter Tryz.func73, Tryz.ntmps73
    repeat' ((fail_if_success (with_reducible refine halt_at 1 ?_)); first | go_values | go_skip | go_guarded | go_step | go_upon | go_back | (simp only [Int.not_lt, Int.not_le] at *; go_simp) | (go_values <;> (try go_simp)) | (go_ite <;> go_prune <;> (try go_simp)) | (split <;> (first | (rename_i hx; exact (hx _ rfl).elim) | go_prune)))
    have hlk1 : namesF t.ents (.string (bs name).data.toList) = some (.int .i64 i) := by rw [bs_list, namesF_at, HI.out]; rfl
    have T1 := (HT.out.below hb0).drew
    have nm2 : MapF _ Tryz.prog 9 bn (namesF t.ents) t.ents.length := T1.nm
    have hlook := nm2.look strL Tryz.underlying68 intZero (strK (bs name) (by rw [bs_size]; unfold maxLen; omega)) hlk1
    have _g0 := (HT.out.below hb0).blk.cell 0
    simp only [Option.getD_some] at hlook
    clear nm2 hlk1
    go_region
    clear hlook
    obtain ⟨w1, hw1⟩ : ∃ w1, w1 = (w.alloc (.cells #[.int .i64 7, .string (bs name), .string (bs dest), .int .i64 n, .int .u8 n0, .int .i64 n1, .int .i64 n2, .int .i64 n3, .int .i64 n4, .int .i64 n5, .string (bs n6), .string (bs n7), .int .i64 n8, .int .i64 n9] 53)).drew := ⟨_, rfl⟩
    have bb := (Blk.new w 53 #[.int .i64 7, .string (bs name), .string (bs dest), .int .i64 n, .int .u8 n0, .int .i64 n1, .int .i64 n2, .int .i64 n3, .int .i64 n4, .int .i64 n5, .string (bs n6), .string (bs n7), .int .i64 n8, .int .i64 n9]).drew
    have hB1 : Below w.heap.size w w1 := by rw [hw1]; exact hb0.drew
    rw [← hw1] at T1 bb ⊢
    have _x0 : w1.cell? ⟨w.heap.size, 0, none⟩ = some (.int .i64 7) := bb.cell 0
    have _x2 : w1.cell? ⟨w.heap.size, 2, none⟩ = some (.string (bs dest)) := bb.cell 2
    have _x3 : w1.cell? ⟨w.heap.size, 3, none⟩ = some (.int .i64 n) := bb.cell 3
    have _x6 : w1.cell? ⟨w.heap.size, 6, none⟩ = some (.int .i64 n2) := bb.cell 6
    have _x7 : w1.cell? ⟨w.heap.size, 7, none⟩ = some (.int .i64 n3) := bb.cell 7
    have _x8 : w1.cell? ⟨w.heap.size, 8, none⟩ = some (.int .i64 n4) := bb.cell 8
    have _x9 : w1.cell? ⟨w.heap.size, 9, none⟩ = some (.int .i64 n5) := bb.cell 9
    have hBl := bb.lt
    have _h1 : w1.cell? ⟨g, 1, none⟩ = some (.map (some bf)) := T1.blk.cell 1
    obtain ⟨nf, hf, hnf⟩ := T1.fl
    have HF := Lib.hid hf
    have B1 := Lib.hid hB1
    have B3 := Lib.hid (hB1.alloc hB1.size (.cells #[.int .u8 m0, .int .i64 m1, .int .i64 n2, .int .i64 n3, .int .i64 m4, .int .i64 m5, .string (bs m6), .string (bs m7), .int .i64 m8, .int .i64 m9] 33)).drew
    clear hw1 T1 bb hB1 hf _g0
    repeat' ((fail_if_success (with_reducible refine halt_at 13 ?_)); first
      | (refine wpList_o_look rfl (.tmp 17) (.tmp 18) 69 rfl 33 intL Tryz.underlying69 ndZero HF.out rfl (.int .i64 i) (.int .i64 i) rfl (natK i (by omega)) _ rfl ?_; rw [HG.out]; unfold ndv ndc)
      | go_values | go_skip | go_guarded | go_step | go_upon | go_back | (simp only [Int.not_lt, Int.not_le] at *; go_simp) | (go_values <;> (try go_simp)) | (go_ite <;> go_prune <;> (try go_simp)) | (split <;> (first | (rename_i hx; exact (hx _ rfl).elim) | go_prune)))
    go_region
    go_wp2_with fail
    refine (RT.out _).mono ?_
    rintro e w4 ⟨rfl, k4⟩
    have B4 := Lib.hid (thenB B3.out k4)
    have nb := (Blk.new w1 33 #[.int .u8 m0, .int .i64 m1, .int .i64 n2, .int .i64 n3, .int .i64 m4, .int .i64 m5, .string (bs m6), .string (bs m7), .int .i64 m8, .int .i64 m9]).drew.below k4 (by simp)
    have T4 := HT.out.below B4.out
    have _d0 : w4.cell? ⟨w1.heap.size, 0, none⟩ = some (.int .u8 m0) := nb.cell 0
    have _d1 : w4.cell? ⟨w1.heap.size, 1, none⟩ = some (.int .i64 m1) := nb.cell 1
    have _d2 : w4.cell? ⟨w1.heap.size, 2, none⟩ = some (.int .i64 n2) := nb.cell 2
    have _d3 : w4.cell? ⟨w1.heap.size, 3, none⟩ = some (.int .i64 n3) := nb.cell 3
    have _d4 : w4.cell? ⟨w1.heap.size, 4, none⟩ = some (.int .i64 m4) := nb.cell 4
    have _d5 : w4.cell? ⟨w1.heap.size, 5, none⟩ = some (.int .i64 m5) := nb.cell 5
    have _d6 : w4.cell? ⟨w1.heap.size, 6, none⟩ = some (.string (bs m6)) := nb.cell 6
    have _d7 : w4.cell? ⟨w1.heap.size, 7, none⟩ = some (.string (bs m7)) := nb.cell 7
    have _d8 : w4.cell? ⟨w1.heap.size, 8, none⟩ = some (.int .i64 m8) := nb.cell 8
    have _d9 : w4.cell? ⟨w1.heap.size, 9, none⟩ = some (.int .i64 m9) := nb.cell 9
    have _g1 : w4.cell? ⟨g, 1, none⟩ = some (.map (some bf)) := T4.blk.cell 1
    obtain ⟨wA, hA, tA, gA⟩ := file_told (w' := w4) T4.drew HEX.out hx hin ⟨m0, m1, n2, n3, m4, m5, m6, m7, m8, m9⟩
    unfold ndv ndc at hA
    simp only at hA
    have FIN : Turned w g (some bn) (some bf) ⟨t.ents, upd t.fl i (some ⟨m0, m1, n2, n3, m4, m5, m6, m7, m8, m9⟩), t.nx⟩ wA :=
      ⟨some bn, some bf, tA, fun b hb => .inl hb, (Kept.of_below B4.out).drew.grown gA (.inl (by simp [own]))⟩
    have FN := Lib.hid FIN
    clear FIN tA gA T4 nb k4
    repeat' ((fail_if_success (with_reducible refine halt_at 18 ?_)); first | go_values | go_skip | go_guarded | go_step | go_upon | go_back | (simp only [Int.not_lt, Int.not_le] at *; go_simp) | (go_values <;> (try go_simp)) | (go_ite <;> go_prune <;> (try go_simp)) | (split <;> (first | (rename_i hx; exact (hx _ rfl).elim) | go_prune)))
    go_region
    all_goals go_wp2_with fail
    all_goals go_ret
    all_goals exact ⟨rfl, FN.out⟩

set_option maxRecDepth 100000 in
set_option maxHeartbeats 4000000 in
theorem change_8 {w : World} {g : Nat} {on of : Option Nat} {t : T} (h : TreeAt w g on of t) (ht : Std t) (hx : t.nx ≤ 100000) (x : Deed) (i : Nat) (hi : Tre.look t.ents x.name = some i) (hw : x.what = 8) (h1 : x.to.length ≤ 10000) :
    Calls Tryz.prog 73 #[.pointer (some ⟨g, 0, none⟩), dv x] w fun e w' => e = .returned (errV (change t x i).2) ∧ Turned w g on of (change t x i).1 w' := by
  have hg := h.blk.lt
  have hb0 : Below w.heap.size w (w.alloc (.cells (dvc x) 53)) := (Below.refl _ _).alloc (Nat.le_refl _) _
  obtain ⟨bn, bf, rfl, rfl⟩ := h.made hi
  have HT := Lib.hid h
  have hsh := ht.short hi
  have hin : i ≤ 100000 := by omega
  have HI := Lib.hid hi
  obtain ⟨_, _, mm, hmm, hmr⟩ := ht.ok _ (look_mem hi)
  have hex : ∃ n, t.fl i = some n := ⟨mm, hmm⟩
  have HEX := Lib.hid hex
  obtain ⟨m, hM⟩ : ∃ m, m = t.file i := ⟨_, rfl⟩
  have hmm2 : m = mm := by rw [hM]; unfold T.file; simp only at hmm; rw [hmm]; rfl
  have hrm : rightN m = true := by rw [hmm2]; exact hmr
  have e := change_ways t x i m hM
  rw [e]
  have hget := files_get t i
  rw [← hM] at hget
  clear e ht hi hmr hmm2 hmm hex hM h
  obtain ⟨what, name, dest, n, node⟩ := x
  obtain ⟨n0, n1, n2, n3, n4, n5, n6, n7, n8, n9⟩ := node
  obtain ⟨m0, m1, m2, m3, m4, m5, m6, m7, m8, m9⟩ := m
  simp only at hw h1
  subst hw
  have hmk : m0 ≤ 255 ∧ m7.length ≤ 10000 ∧ m6.length ≤ 10000 := by
    unfold rightN inR at hrm
    simp at hrm
    refine ⟨by omega, by omega, ?_⟩
    have := hrm.2
    split at this
    · omega
    · rw [this]; simp
  have hcd : changed ⟨m0, m1, m2, m3, m4, m5, m6, m7, m8, m9⟩ ⟨8, name, dest, n, ⟨n0, n1, n2, n3, n4, n5, n6, n7, n8, n9⟩⟩ = ⟨m0, m1, m2, m3, n4, n5, m6, m7, m8, m9⟩ := rfl
  rw [hcd]
  have RT := Lib.hid (fun w => treeRight_any ⟨m0, m1, m2, m3, n4, n5, m6, m7, m8, m9⟩ (by simp only; omega) (by simp only; omega) (by simp only; omega) w)
  obtain ⟨rr, hr⟩ : ∃ rr, rr = rightN ⟨m0, m1, m2, m3, n4, n5, m6, m7, m8, m9⟩ := ⟨_, rfl⟩
  rw [← hr] at RT ⊢
  have HG := Lib.hid hget
  have HW := Lib.hid hcd
  unfold dv dvc
  unfold dvc at hb0
  unfold ndv ndc at RT
  simp only at RT hsh hb0 ⊢
  clear hget hcd hr hrm HW
  rw [if_neg (fun h => absurd h.1 (by decide)), if_neg (fun h => absurd h.1 (by decide))]
  cases rr with
  | false =>
    rw [if_pos rfl]
    go_enter Tryz.func73, Tryz.ntmps73
    repeat' ((fail_if_success (with_reducible refine halt_at 1 ?_)); first | go_values | go_skip | go_guarded | go_step | go_upon | go_back | (simp only [Int.not_lt, Int.not_le] at *; go_simp) | (go_values <;> (try go_simp)) | (go_ite <;> go_prune <;> (try go_simp)) | (split <;> (first | (rename_i hx; exact (hx _ rfl).elim) | go_prune)))
    have hlk1 : namesF t.ents (.string (bs name).data.toList) = some (.int .i64 i) := by rw [bs_list, namesF_at, HI.out]; rfl
    have T1 := (HT.out.below hb0).drew
    have nm2 : MapF _ Tryz.prog 9 bn (namesF t.ents) t.ents.length := T1.nm
    have hlook := nm2.look strL Tryz.underlying68 intZero (strK (bs name) (by rw [bs_size]; unfold maxLen; omega)) hlk1
    have _g0 := (HT.out.below hb0).blk.cell 0
    simp only [Option.getD_some] at hlook
    clear nm2 hlk1
    go_region
    clear hlook
    obtain ⟨w1, hw1⟩ : ∃ w1, w1 = (w.alloc (.cells #[.int .i64 8, .string (bs name), .string (bs dest), .int .i64 n, .int .u8 n0, .int .i64 n1, .int .i64 n2, .int .i64 n3, .int .i64 n4, .int .i64 n5, .string (bs n6), .string (bs n7), .int .i64 n8, .int .i64 n9] 53)).drew := ⟨_, rfl⟩
    have bb := (Blk.new w 53 #[.int .i64 8, .string (bs name), .string (bs dest), .int .i64 n, .int .u8 n0, .int .i64 n1, .int .i64 n2, .int .i64 n3, .int .i64 n4, .int .i64 n5, .string (bs n6), .string (bs n7), .int .i64 n8, .int .i64 n9]).drew
    have hB1 : Below w.heap.size w w1 := by rw [hw1]; exact hb0.drew
    rw [← hw1] at T1 bb ⊢
    have _x0 : w1.cell? ⟨w.heap.size, 0, none⟩ = some (.int .i64 8) := bb.cell 0
    have _x2 : w1.cell? ⟨w.heap.size, 2, none⟩ = some (.string (bs dest)) := bb.cell 2
    have _x3 : w1.cell? ⟨w.heap.size, 3, none⟩ = some (.int .i64 n) := bb.cell 3
    have _x6 : w1.cell? ⟨w.heap.size, 6, none⟩ = some (.int .i64 n2) := bb.cell 6
    have _x7 : w1.cell? ⟨w.heap.size, 7, none⟩ = some (.int .i64 n3) := bb.cell 7
    have _x8 : w1.cell? ⟨w.heap.size, 8, none⟩ = some (.int .i64 n4) := bb.cell 8
    have _x9 : w1.cell? ⟨w.heap.size, 9, none⟩ = some (.int .i64 n5) := bb.cell 9
    have hBl := bb.lt
    have _h1 : w1.cell? ⟨g, 1, none⟩ = some (.map (some bf)) := T1.blk.cell 1
    obtain ⟨nf, hf, hnf⟩ := T1.fl
    have HF := Lib.hid hf
    have B1 := Lib.hid hB1
    have B3 := Lib.hid (hB1.alloc hB1.size (.cells #[.int .u8 m0, .int .i64 m1, .int .i64 m2, .int .i64 m3, .int .i64 n4, .int .i64 n5, .string (bs m6), .string (bs m7), .int .i64 m8, .int .i64 m9] 33))
    clear hw1 T1 bb hB1 hf _g0
    go_wp2_with (first
      | (refine wpList_o_look rfl (.tmp 17) (.tmp 18) 69 rfl 33 intL Tryz.underlying69 ndZero HF.out rfl (.int .i64 i) (.int .i64 i) rfl (natK i (by omega)) _ rfl ?_; rw [HG.out]; unfold ndv ndc))
    refine (RT.out _).mono ?_
    rintro e w4 ⟨rfl, k4⟩
    have B4 := Lib.hid (thenB B3.out k4)
    clear k4
    go_wp2_with fail
    go_ret
    exact ⟨rfl, Turned.still HT.out B4.out⟩
  | true =>
    rw [if_neg (by simp)]
    go_enter Tryz.func73, Tryz.ntmps73
    repeat' ((fail_if_success (with_reducible refine halt_at 1 ?_)); first | go_values | go_skip | go_guarded | go_step | go_upon | go_back | (simp only [Int.not_lt, Int.not_le] at *; go_simp) | (go_values <;> (try go_simp)) | (go_ite <;> go_prune <;> (try go_simp)) | (split <;> (first | (rename_i hx; exact (hx _ rfl).elim) | go_prune)))
    have hlk1 : namesF t.ents (.string (bs name).data.toList) = some (.int .i64 i) := by rw [bs_list, namesF_at, HI.out]; rfl
    have T1 := (HT.out.below hb0).drew
    have nm2 : MapF _ Tryz.prog 9 bn (namesF t.ents) t.ents.length := T1.nm
    have hlook := nm2.look strL Tryz.underlying68 intZero (strK (bs name) (by rw [bs_size]; unfold maxLen; omega)) hlk1
    have _g0 := (HT.out.below hb0).blk.cell 0
    simp only [Option.getD_some] at hlook
    clear nm2 hlk1
    go_region
    clear hlook
    obtain ⟨w1, hw1⟩ : ∃ w1, w1 = (w.alloc (.cells #[.int .i64 8, .string (bs name), .string (bs dest), .int .i64 n, .int .u8 n0, .int .i64 n1, .int .i64 n2, .int .i64 n3, .int .i64 n4, .int .i64 n5, .string (bs n6), .string (bs n7), .int .i64 n8, .int .i64 n9] 53)).drew := ⟨_, rfl⟩
    have bb := (Blk.new w 53 #[.int .i64 8, .string (bs name), .string (bs dest), .int .i64 n, .int .u8 n0, .int .i64 n1, .int .i64 n2, .int .i64 n3, .int .i64 n4, .int .i64 n5, .string (bs n6), .string (bs n7), .int .i64 n8, .int .i64 n9]).drew
    have hB1 : Below w.heap.size w w1 := by rw [hw1]; exact hb0.drew
    rw [← hw1] at T1 bb ⊢
    have _x0 : w1.cell? ⟨w.heap.size, 0, none⟩ = some (.int .i64 8) := bb.cell 0
    have _x2 : w1.cell? ⟨w.heap.size, 2, none⟩ = some (.string (bs dest)) := bb.cell 2
    have _x3 : w1.cell? ⟨w.heap.size, 3, none⟩ = some (.int .i64 n) := bb.cell 3
    have _x6 : w1.cell? ⟨w.heap.size, 6, none⟩ = some (.int .i64 n2) := bb.cell 6
    have _x7 : w1.cell? ⟨w.heap.size, 7, none⟩ = some (.int .i64 n3) := bb.cell 7
    have _x8 : w1.cell? ⟨w.heap.size, 8, none⟩ = some (.int .i64 n4) := bb.cell 8
    have _x9 : w1.cell? ⟨w.heap.size, 9, none⟩ = some (.int .i64 n5) := bb.cell 9
    have hBl := bb.lt
    have _h1 : w1.cell? ⟨g, 1, none⟩ = some (.map (some bf)) := T1.blk.cell 1
    obtain ⟨nf, hf, hnf⟩ := T1.fl
    have HF := Lib.hid hf
    have B1 := Lib.hid hB1
    have B3 := Lib.hid (hB1.alloc hB1.size (.cells #[.int .u8 m0, .int .i64 m1, .int .i64 m2, .int .i64 m3, .int .i64 n4, .int .i64 n5, .string (bs m6), .string (bs m7), .int .i64 m8, .int .i64 m9] 33))
    clear hw1 T1 bb hB1 hf _g0
    go_wp2_with (first
      | (refine wpList_o_look rfl (.tmp 17) (.tmp 18) 69 rfl 33 intL Tryz.underlying69 ndZero HF.out rfl (.int .i64 i) (.int .i64 i) rfl (natK i (by omega)) _ rfl ?_; rw [HG.out]; unfold ndv ndc))
    refine (RT.out _).mono ?_
    rintro e w4 ⟨rfl, k4⟩
    have B4 := Lib.hid (thenB B3.out k4)
    have nb := (Blk.new w1 33 #[.int .u8 m0, .int .i64 m1, .int .i64 m2, .int .i64 m3, .int .i64 n4, .int .i64 n5, .string (bs m6), .string (bs m7), .int .i64 m8, .int .i64 m9]).below k4 (by simp)
    have T4 := HT.out.below B4.out
    have _d0 : w4.cell? ⟨w1.heap.size, 0, none⟩ = some (.int .u8 m0) := nb.cell 0
    have _d1 : w4.cell? ⟨w1.heap.size, 1, none⟩ = some (.int .i64 m1) := nb.cell 1
    have _d2 : w4.cell? ⟨w1.heap.size, 2, none⟩ = some (.int .i64 m2) := nb.cell 2
    have _d3 : w4.cell? ⟨w1.heap.size, 3, none⟩ = some (.int .i64 m3) := nb.cell 3
    have _d4 : w4.cell? ⟨w1.heap.size, 4, none⟩ = some (.int .i64 n4) := nb.cell 4
    have _d5 : w4.cell? ⟨w1.heap.size, 5, none⟩ = some (.int .i64 n5) := nb.cell 5
    have _d6 : w4.cell? ⟨w1.heap.size, 6, none⟩ = some (.string (bs m6)) := nb.cell 6
    have _d7 : w4.cell? ⟨w1.heap.size, 7, none⟩ = some (.string (bs m7)) := nb.cell 7
    have _d8 : w4.cell? ⟨w1.heap.size, 8, none⟩ = some (.int .i64 m8) := nb.cell 8
    have _d9 : w4.cell? ⟨w1.heap.size, 9, none⟩ = some (.int .i64 m9) := nb.cell 9
    have _g1 : w4.cell? ⟨g, 1, none⟩ = some (.map (some bf)) := T4.blk.cell 1
    obtain ⟨wA, hA, tA, gA⟩ := file_told (w' := w4) T4.drew HEX.out hx hin ⟨m0, m1, m2, m3, n4, n5, m6, m7, m8, m9⟩
    unfold ndv ndc at hA
    simp only at hA
    have FIN : Turned w g (some bn) (some bf) ⟨t.ents, upd t.fl i (some ⟨m0, m1, m2, m3, n4, n5, m6, m7, m8, m9⟩), t.nx⟩ wA :=
      ⟨some bn, some bf, tA, fun b hb => .inl hb, (Kept.of_below B4.out).drew.grown gA (.inl (by simp [own]))⟩
    have FN := Lib.hid FIN
    clear FIN tA gA T4 nb k4
    repeat' ((fail_if_success (with_reducible refine halt_at 18 ?_)); first | go_values | go_skip | go_guarded | go_step | go_upon | go_back | (simp only [Int.not_lt, Int.not_le] at *; go_simp) | (go_values <;> (try go_simp)) | (go_ite <;> go_prune <;> (try go_simp)) | (split <;> (first | (rename_i hx; exact (hx _ rfl).elim) | go_prune)))
    go_region
    all_goals go_wp2_with fail
    all_goals go_ret
    all_goals exact ⟨rfl, FN.out⟩

end Go.Proofs.YtipajekehbpghaaGreatDoor
