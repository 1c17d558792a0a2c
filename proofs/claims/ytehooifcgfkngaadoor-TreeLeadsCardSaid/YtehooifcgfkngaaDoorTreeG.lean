/-
  What a change leaves; (*Tree).create.
-/
import Derived.Test.YtehooifcgfkngaaDoorTreeF
import Derived.Test.YtehooifcgfkngaaDoorMapE
import Derived.BigRegion
import Derived.Deep.CutBlock
namespace Go.Proofs.YtehooifcgfkngaaDoor
open Go.RowKit Go.Maps Tre

/-- An action's cells. -/
def dvc (x : Deed) : Array Value := #[.int .i64 x.what, .string (bs x.name), .string (bs x.to), .int .i64 x.n, .int .u8 x.node.kind, .int .i64 x.node.mode, .int .i64 x.node.uid, .int .i64 x.node.gid, .int .i64 x.node.sec, .int .i64 x.node.nano, .string (bs x.node.data), .string (bs x.node.link), .int .i64 x.node.major, .int .i64 x.node.minor]
def dv (x : Deed) : Value := .agg (dvc x)

/-- All but the blocks own is as it was. -/
structure Kept (O : List Nat) (w w' : World) : Prop where
  os : w'.os = w.os
  tape : w'.tape = w.tape
  output : w'.output = w.output
  size : w.heap.size ≤ w'.heap.size
  block : ∀ b, b < w.heap.size → b ∉ O → w'.heap[b]? = w.heap[b]?
section
variable {O : List Nat} {a b c : World}
theorem Kept.refl (O : List Nat) (a : World) : Kept O a a := ⟨rfl, rfl, rfl, Nat.le_refl _, fun _ _ _ => rfl⟩
theorem Kept.of_below (h : Below a.heap.size a b) : Kept O a b := ⟨h.os, h.tape, h.output, h.size, fun i hi _ => h.block i hi⟩
theorem Kept.trans (h : Kept O a b) (k : Kept O b c) : Kept O a c :=
  ⟨k.os.trans h.os, k.tape.trans h.tape, k.output.trans h.output, Nat.le_trans h.size k.size, fun i hi hn => (k.block i (Nat.lt_of_lt_of_le hi h.size) hn).trans (h.block i hi hn)⟩
theorem Kept.below (h : Kept O a b) (k : Below b.heap.size b c) : Kept O a c := h.trans (.of_below k)
theorem Kept.grown {g : Nat} (h : Kept O a b) (k : b.grownBy c (some g)) (hg : g ∈ O ∨ a.heap.size ≤ g) : Kept O a c :=
  ⟨k.os.trans h.os, k.tape.trans h.tape, k.output.trans h.output, Nat.le_trans h.size k.size, fun i hi hn => (k.block i (Nat.lt_of_lt_of_le hi h.size) (by
    intro e; injection e with e; subst e
    rcases hg with hg | hg
    · exact hn hg
    · omega)).trans (h.block i hi hn)⟩
theorem Kept.alloc (h : Kept O a b) (o : Obj) : Kept O a (b.alloc o) := h.below ((Below.refl _ _).alloc (Nat.le_refl _) _)
theorem Kept.drew (h : Kept O a b) : Kept O a b.drew := ⟨h.os, h.tape, h.output, h.size, h.block⟩
theorem Kept.setCell {p : Addr} (h : Kept O a b) (hp : p.block ∈ O ∨ a.heap.size ≤ p.block) (u : Value) : Kept O a (b.setCell p u) :=
  h.grown (only_setCell (only_refl b (some p.block)) (.inl rfl) u) hp
theorem Kept.down {B : Nat} (h : Kept O a b) (hO : ∀ x ∈ O, B ≤ x) (hB : B ≤ a.heap.size) : Below B a b :=
  ⟨h.os, h.tape, h.output, h.size, fun i hi => h.block i (by omega) fun hm => by have := hO i hm; omega⟩
end
/-- The tree t stands in block g behind a change that began at w. -/
def Turned (w : World) (g : Nat) (on of : Option Nat) (t : T) (w' : World) : Prop :=
  ∃ on' of', TreeAt w' g on' of' t ∧ (∀ b ∈ own g on' of', b ∈ own g on of ∨ w.heap.size ≤ b) ∧ Kept (own g on of) w w'
theorem Turned.still {w w' : World} {g : Nat} {on of : Option Nat} {t : T} (h : TreeAt w g on of t) (hb : Below w.heap.size w w') : Turned w g on of t w' :=
  ⟨on, of, h.below hb, fun _ hb => .inl hb, .of_below hb⟩

theorem namesF_snoc {E : List (Pth.Bs × Nat)} {s : Pth.Bs} {k : Nat} (h : Tre.look E s = none) : setF (namesF E) (.string s) (.int .i64 (k : Int)) = namesF (E ++ [(s, k)]) := by
  unfold namesF
  rw [strF_set]
  congr 1
  funext x
  rw [look_snoc]
  by_cases e : x = s
  · subst e; rw [h]; simp
  · rw [if_neg e, if_neg e]; cases Tre.look E x <;> rfl
theorem filesF_upd (fl : Nat → Option Nd) (k : Nat) (n : Nd) : setF (filesF fl) (.int .i64 (k : Int)) (ndv n) = filesF (upd fl k (some n)) := by
  unfold filesF
  rw [intF_set]
  congr 1
  funext x
  unfold upd
  by_cases e : x = (k : Int)
  · subst e
    rw [if_pos rfl, if_pos (by omega), if_pos (by omega)]; rfl
  · rw [if_neg e]
    by_cases e2 : 0 ≤ x
    · rw [if_pos e2, if_pos e2, if_neg (by omega)]
    · rw [if_neg e2, if_neg e2]
/-- Ready for a new entry: both maps are made. -/
def Ready (w : World) (g : Nat) (on of : Option Nat) (t : T) (x : Deed) (B : Nat) (bn bf : Nat) (wx : World) : Prop :=
  Blk wx g 58 #[.map (some bn), .map (some bf), .int .i64 t.nx] ∧ MapF wx Tryd.prog 9 bn (namesF t.ents) t.ents.length ∧ (∃ nf, MapF wx Tryd.prog 3 bf (filesF t.fl) nf ∧ nf ≤ t.nx) ∧ bn ≠ bf ∧
    (bn ∈ own g on of ∨ w.heap.size ≤ bn) ∧ (bf ∈ own g on of ∨ w.heap.size ≤ bf) ∧ Blk wx B 43 (dvc x) ∧ w.heap.size ≤ B ∧ Kept (own g on of) w wx

theorem blk_map_ne {w : World} {g b n : Nat} {t K : TypeId} {cs : Array Value} {P : Program} {f : Lit → Option Value} (h : Blk w g t cs) (k : MapF w P K b f n) : g ≠ b := by
  rintro rfl
  obtain ⟨D, ⟨es, clock, hb, _⟩, _⟩ := k
  unfold Blk at h
  rw [h] at hb
  cases hb

set_option maxRecDepth 100000 in
set_option maxHeartbeats 4000000 in
theorem create_any {w : World} {g : Nat} {on of : Option Nat} {t : T} (h : TreeAt w g on of t) (ht : Std t) (hx : t.nx ≤ 100000) (hm : ML w) (x : Deed) (hk : x.node.kind ≤ 255) (h1 : x.name.length ≤ 10000) (h2 : x.node.link.length ≤ 10000) (h3 : x.node.data.length ≤ 10000) :
    Calls Tryd.prog 29 #[.pointer (some ⟨g, 0, none⟩), dv x] w fun e w' => e = .returned (errV (create t x).2) ∧ Turned w g on of (create t x).1 w' := by
  have hg := h.blk.lt
  have hb0 : Below w.heap.size w (w.alloc (.cells (dvc x) 43)) := (Below.refl _ _).alloc (Nat.le_refl _) _
  have HT := Lib.hid h
  have HS := Lib.hid ht
  have HX := Lib.hid hx
  have TR := Lib.hid (fun w => treeRight_any x.node hk (by omega) (by omega) w)
  have SPC := Lib.hid (fun w' (hb : Below w.heap.size w w') => space_any (HT.out.below hb) ht (by omega) (hm.below hb) (bs x.name) (by rw [bs_size]; omega))
  have e : create t x = if rightN x.node = false then (t, 1) else if space t x.name ≠ 0 then (t, space t x.name) else (⟨t.ents ++ [(x.name, t.nx + 1)], upd t.fl (t.nx + 1) (some x.node), t.nx + 1⟩, 0) := rfl
  rw [e]
  clear e h ht hm hx
  obtain ⟨r, hr⟩ : ∃ r, r = rightN x.node := ⟨_, rfl⟩
  rw [← hr] at TR ⊢
  obtain ⟨c, hc⟩ : ∃ c, c = space t x.name := ⟨_, rfl⟩
  have SPC2 : Hid (∀ w', Below w.heap.size w w' → Calls Tryd.prog 50 #[.pointer (some ⟨g, 0, none⟩), .string (bs x.name)] w' fun e w'' => e = .returned (errV c) ∧ Below w'.heap.size w' w'') := by
    rw [hc]; exact SPC
  rw [← hc]
  have HC := Lib.hid hc
  unfold dv dvc
  unfold ndv ndc at TR
  obtain ⟨what, name, dest, n, node⟩ := x
  obtain ⟨n0, n1, n2, n3, n4, n5, n6, n7, n8, n9⟩ := node
  simp only at *
  clear SPC hc hr
  cases r with
  | false =>
    rw [if_pos rfl]
    go_enter Tryd.func29, Tryd.ntmps29
    go_wp2_with fail
    refine (TR.out _).mono ?_
    rintro e w1 ⟨rfl, k1⟩
    have B1 := Lib.hid (thenB ((Below.refl _ _).alloc (Nat.le_refl _) _) k1)
    clear k1
    go_wp2_with fail
    go_ret
    exact ⟨rfl, Turned.still HT.out B1.out⟩
  | true =>
    rw [if_neg (by simp)]
    by_cases h0 : c = 0
    · subst h0
      rw [if_neg (by simp)]
      have e1 : errV 0 = .nilIface := rfl
      rw [e1] at SPC2
      clear e1
      go_enter Tryd.func29, Tryd.ntmps29
      go_wp2_with fail
      refine (TR.out _).mono ?_
      rintro e w1 ⟨rfl, k1⟩
      have B1 := Lib.hid (thenB ((Below.refl _ _).alloc (Nat.le_refl _) _) k1)
      have b1 := k1.cell (p := ⟨w.heap.size, 1, none⟩) (by simp)
      have BB := Lib.hid ((Blk.new w 43 (dvc ⟨what, name, dest, n, ⟨n0, n1, n2, n3, n4, n5, n6, n7, n8, n9⟩⟩)).below k1 (by simp))
      have z1 := BB.out.cell 1
      clear k1 b1
      unfold dvc at z1
      go_wp2_with fail
      refine (SPC2.out _ B1.out).mono ?_
      rintro e w2 ⟨rfl, k2⟩
      have B2 := Lib.hid (thenB B1.out k2)
      have BB2 := Lib.hid (BB.out.below k2 BB.out.lt)
      clear k2 z1
      have T2 := Lib.hid (HT.out.below B2.out)
      have g0 := T2.out.blk.cell 0
      have hmm := @run_makeMap Tryd.prog
      have hq := fun W => run_eql_map_nil (P := Tryd.prog) W 55 9 3 on Tryd.underlying55
      go_upto_if 22 with (fail)
      go_cut [] (fun wx => ∃ bn bf, Ready w g on of t ⟨what, name, dest, n, ⟨n0, n1, n2, n3, n4, n5, n6, n7, n8, n9⟩⟩ w.heap.size bn bf wx)
      case first =>
        cases on with
        | none =>
          have hof : of = none := T2.out.both.1 rfl
          subst hof
          have fz0 := T2.out.blk.frozen 0
          have fz1 := T2.out.blk.frozen 1
          have g1 := T2.out.blk.cell 1
          have hg2 := T2.out.blk.lt
          go_wp2_with fail
          go_meet
          have hl : t.ents.length = 0 := T2.out.nm.1
          have hgw := B2.out.size
          obtain ⟨nf, hnf, _⟩ := T2.out.fl
          refine ⟨w2.heap.size, w2.heap.size + 1, ?_, ?_, ⟨0, ?_, Nat.zero_le _⟩, by omega, .inr hgw, .inr (by omega), ?_, Nat.le_refl _, ?_⟩
          · exact (((T2.out.blk.set_ 0 _).set_ 1 _).alloc _).alloc _
          · have h5 := (MapF.made ((w2.setCell ⟨g, 0, none⟩ (.map (some w2.heap.size))).setCell ⟨g, 1, none⟩ (.map (some (w2.heap.size + 1)))) Tryd.prog 9).congr fun k hk => (T2.out.nm.2 k hk).symm
            rw [show ((w2.setCell ⟨g, 0, none⟩ (.map (some w2.heap.size))).setCell ⟨g, 1, none⟩ (.map (some (w2.heap.size + 1)))).heap.size = w2.heap.size by simp [World.setCell]] at h5
            rw [hl]
            exact h5.alloc _
          · have h5 := (MapF.made (((w2.setCell ⟨g, 0, none⟩ (.map (some w2.heap.size))).setCell ⟨g, 1, none⟩ (.map (some (w2.heap.size + 1)))).alloc (.map #[] 0)) Tryd.prog 3).congr fun k hk => (hnf.2 k hk).symm
            rw [show (((w2.setCell ⟨g, 0, none⟩ (.map (some w2.heap.size))).setCell ⟨g, 1, none⟩ (.map (some (w2.heap.size + 1)))).alloc (.map #[] 0)).heap.size = w2.heap.size + 1 by simp [World.setCell]] at h5
            exact h5
          · exact (((BB2.out.far (p := ⟨g, 0, none⟩) (by show w.heap.size ≠ g; omega) _).far (p := ⟨g, 1, none⟩) (by show w.heap.size ≠ g; omega) _).alloc _).alloc _
          · exact ((((Kept.of_below B2.out).setCell (p := ⟨g, 0, none⟩) (.inl (by simp [own])) _).setCell (p := ⟨g, 1, none⟩) (.inl (by simp [own])) _).alloc _).alloc _
        | some bn =>
          cases of with
          | none => exact absurd (HT.out.both.2 rfl) (by simp)
          | some bf =>
            go_wp2_with fail
            go_meet
            exact ⟨bn, bf, T2.out.blk, T2.out.nm, T2.out.fl, fun e => T2.out.ne bn rfl (by rw [e]), .inl (by simp [own]), .inl (by simp [own]), BB2.out, Nat.le_refl _, .of_below B2.out⟩
      case rest =>
        obtain ⟨bn, bf, r1, r2, ⟨nf, r3, r4⟩, r5, r6, r7, r8, r9, r10⟩ := hcut
        have q0 := r1.cell 0
        have q1 := r1.cell 1
        have q2 := r1.cell 2
        have qf2 := r1.frozen 2
        have HX2 := HX.out
        have e9 := Blk.set_ r1 2 (.int .i64 ((t.nx : Int) + 1))
        have m9 := r2.setCell (a := ⟨g, 2, none⟩) (fun e => blk_map_ne r1 r2 e.symm) (.int .i64 ((t.nx : Int) + 1))
        have p9 := r3.setCell (a := ⟨g, 2, none⟩) (fun e => blk_map_ne r1 r3 e.symm) (.int .i64 ((t.nx : Int) + 1))
        have b9 := r8.far (p := ⟨g, 2, none⟩) (by show w.heap.size ≠ g; omega) (.int .i64 ((t.nx : Int) + 1))
        have k9 := r10.setCell (p := ⟨g, 2, none⟩) (.inl (by simp [own])) (.int .i64 ((t.nx : Int) + 1))
        repeat' ((fail_if_success (with_reducible refine halt_at 9 ?_)); first | go_values | go_skip | go_guarded | go_step | go_upon | go_back | (simp only [Int.not_lt, Int.not_le] at *; go_simp) | (go_values <;> (try go_simp)) | (go_ite <;> go_prune <;> (try go_simp)) | (split <;> (first | (rename_i hx; exact (hx _ rfl).elim) | go_prune)))
        obtain ⟨w9, hw9⟩ : ∃ w9, w9 = wc.setCell ⟨g, 2, none⟩ (.int .i64 ((t.nx : Int) + 1)) := ⟨_, rfl⟩
        rw [← hw9] at e9 m9 p9 b9 k9 ⊢
        have e9' : Blk w9 g 58 #[.map (some bn), .map (some bf), .int .i64 ((t.nx : Int) + 1)] := e9
        have hgn : g ≠ bn := blk_map_ne r1 r2
        have hgf : g ≠ bf := blk_map_ne r1 r3
        have hBn : w.heap.size ≠ bn := blk_map_ne r8 r2
        have hBf : w.heap.size ≠ bf := blk_map_ne r8 r3
        have hroom := space_zero HC.out.symm
        have hno : Tre.look t.ents name = none := by
          have := (room_zero hroom.1).2.1
          unfold T.has at this; simpa using this
        have hno1 : namesF t.ents (.string (bs name).data.toList) = none := by rw [bs_list, namesF_at, hno]; rfl
        have hnf : t.fl (t.nx + 1) = none := by
          cases hf : t.fl (t.nx + 1) with
          | none => rfl
          | some q => have := HS.out.fr _ _ hf; omega
        have hno2 : filesF t.fl (.int .i64 ((t.nx : Int) + 1)) = none := by
          have := filesF_at t.fl (t.nx + 1)
          rw [hnf] at this
          simpa using this
        have key2 : keyOf Tryd.prog 3 (.int .i64 ((t.nx : Int) + 1)) = some (.int .i64 ((t.nx : Int) + 1)) := by
          have := natK (t.nx + 1) (by omega)
          simpa using this
        obtain ⟨st, wA, wB, ha, hb, mB, ga, gb, sa, sb⟩ := m9.drew.entry strL Tryd.underlying55 intZero (by unfold maxLen; omega) (strK (bs name) (by rw [bs_size]; unfold maxLen; omega)) hno1 (.int .i64 ((t.nx : Int) + 1))
        have eA := e9'.drew.grown ga (by intro e; injection e with e; exact hgn e)
        have eB := eA.grown gb (by intro e; injection e with e; exact hgn e)
        have bA := b9.drew.grown ga (by intro e; injection e with e; exact hBn e)
        have bB := bA.grown gb (by intro e; injection e with e; exact hBn e)
        have pB := (p9.drew.kept ga (by intro e; injection e with e; exact r5 e.symm)).kept gb (by intro e; injection e with e; exact r5 e.symm)
        obtain ⟨st2, wC, wD, hc, hd, pD, gc, gd, sc, sd⟩ := pB.entry intL Tryd.underlying56 ndZero (by unfold maxLen; omega) key2 hno2 (ndv ⟨n0, n1, n2, n3, n4, n5, n6, n7, n8, n9⟩)
        have eC := eB.grown gc (by intro e; injection e with e; exact hgf e)
        have eD := eC.grown gd (by intro e; injection e with e; exact hgf e)
        have bC := bB.grown gc (by intro e; injection e with e; exact hBf e)
        have mD := (mB.kept gc (by intro e; injection e with e; exact r5 e)).kept gd (by intro e; injection e with e; exact r5 e)
        have kD := (((k9.drew.grown ga r6).grown gb r6).grown gc r7).grown gd r7
        have FIN : Turned w g on of ⟨t.ents ++ [(name, t.nx + 1)], upd t.fl (t.nx + 1) (some ⟨n0, n1, n2, n3, n4, n5, n6, n7, n8, n9⟩), t.nx + 1⟩ wD := by
          refine ⟨some bn, some bf, ⟨?_, ?_, ⟨nf + 1, ?_, ?_⟩, by simp, fun b e1 e2 => ?_⟩, fun b hb => ?_, kD⟩
          · have e : (((t.nx + 1 : Nat)) : Int) = (t.nx : Int) + 1 := by omega
            show Blk wD g 58 #[.map (some bn), .map (some bf), .int .i64 ((t.nx + 1 : Nat) : Int)]
            rw [e]; exact eD
          · show MapF wD Tryd.prog 9 bn (namesF (t.ents ++ [(name, t.nx + 1)])) (t.ents ++ [(name, t.nx + 1)]).length
            rw [List.length_append]
            have h7 := namesF_snoc (k := t.nx + 1) hno
            rw [show (((t.nx + 1 : Nat)) : Int) = (t.nx : Int) + 1 by omega] at h7
            rw [bs_list, h7] at mD
            exact mD
          · show MapF wD Tryd.prog 3 bf (filesF (upd t.fl (t.nx + 1) (some ⟨n0, n1, n2, n3, n4, n5, n6, n7, n8, n9⟩))) (nf + 1)
            have h7 := filesF_upd t.fl (t.nx + 1) ⟨n0, n1, n2, n3, n4, n5, n6, n7, n8, n9⟩
            rw [show (((t.nx + 1 : Nat)) : Int) = (t.nx : Int) + 1 by omega] at h7
            rw [h7] at pD
            exact pD
          · show nf + 1 ≤ t.nx + 1; omega
          · cases e1; cases e2; exact r5 rfl
          · simp [own] at hb
            rcases hb with rfl | rfl | rfl
            · exact .inl (by simp [own])
            · exact r6
            · exact r7
        unfold dvc at b9 bA bB bC
        simp only at b9 bA bB bC
        unfold ndv ndc zero at hc
        unfold ndv ndc at hd
        simp only at hc hd
        have _fw9g0 : w9.cell? ⟨g, 0, none⟩ = some (.map (some bn)) := e9'.cell 0
        have _fw9g1 : w9.cell? ⟨g, 1, none⟩ = some (.map (some bf)) := e9'.cell 1
        have _fw9g2 : w9.cell? ⟨g, 2, none⟩ = some (.int .i64 ((t.nx : Int) + 1)) := e9'.cell 2
        have _fw9b1 : w9.cell? ⟨w.heap.size, 1, none⟩ = some (.string (bs name)) := b9.cell 1
        have _fw9b4 : w9.cell? ⟨w.heap.size, 4, none⟩ = some (.int .u8 n0) := b9.cell 4
        have _fw9b5 : w9.cell? ⟨w.heap.size, 5, none⟩ = some (.int .i64 n1) := b9.cell 5
        have _fw9b6 : w9.cell? ⟨w.heap.size, 6, none⟩ = some (.int .i64 n2) := b9.cell 6
        have _fw9b7 : w9.cell? ⟨w.heap.size, 7, none⟩ = some (.int .i64 n3) := b9.cell 7
        have _fw9b8 : w9.cell? ⟨w.heap.size, 8, none⟩ = some (.int .i64 n4) := b9.cell 8
        have _fw9b9 : w9.cell? ⟨w.heap.size, 9, none⟩ = some (.int .i64 n5) := b9.cell 9
        have _fw9b10 : w9.cell? ⟨w.heap.size, 10, none⟩ = some (.string (bs n6)) := b9.cell 10
        have _fw9b11 : w9.cell? ⟨w.heap.size, 11, none⟩ = some (.string (bs n7)) := b9.cell 11
        have _fw9b12 : w9.cell? ⟨w.heap.size, 12, none⟩ = some (.int .i64 n8) := b9.cell 12
        have _fw9b13 : w9.cell? ⟨w.heap.size, 13, none⟩ = some (.int .i64 n9) := b9.cell 13
        have _fwAg0 : wA.cell? ⟨g, 0, none⟩ = some (.map (some bn)) := eA.cell 0
        have _fwAg1 : wA.cell? ⟨g, 1, none⟩ = some (.map (some bf)) := eA.cell 1
        have _fwAg2 : wA.cell? ⟨g, 2, none⟩ = some (.int .i64 ((t.nx : Int) + 1)) := eA.cell 2
        have _fwAb1 : wA.cell? ⟨w.heap.size, 1, none⟩ = some (.string (bs name)) := bA.cell 1
        have _fwAb4 : wA.cell? ⟨w.heap.size, 4, none⟩ = some (.int .u8 n0) := bA.cell 4
        have _fwAb5 : wA.cell? ⟨w.heap.size, 5, none⟩ = some (.int .i64 n1) := bA.cell 5
        have _fwAb6 : wA.cell? ⟨w.heap.size, 6, none⟩ = some (.int .i64 n2) := bA.cell 6
        have _fwAb7 : wA.cell? ⟨w.heap.size, 7, none⟩ = some (.int .i64 n3) := bA.cell 7
        have _fwAb8 : wA.cell? ⟨w.heap.size, 8, none⟩ = some (.int .i64 n4) := bA.cell 8
        have _fwAb9 : wA.cell? ⟨w.heap.size, 9, none⟩ = some (.int .i64 n5) := bA.cell 9
        have _fwAb10 : wA.cell? ⟨w.heap.size, 10, none⟩ = some (.string (bs n6)) := bA.cell 10
        have _fwAb11 : wA.cell? ⟨w.heap.size, 11, none⟩ = some (.string (bs n7)) := bA.cell 11
        have _fwAb12 : wA.cell? ⟨w.heap.size, 12, none⟩ = some (.int .i64 n8) := bA.cell 12
        have _fwAb13 : wA.cell? ⟨w.heap.size, 13, none⟩ = some (.int .i64 n9) := bA.cell 13
        have _fwBg0 : wB.cell? ⟨g, 0, none⟩ = some (.map (some bn)) := eB.cell 0
        have _fwBg1 : wB.cell? ⟨g, 1, none⟩ = some (.map (some bf)) := eB.cell 1
        have _fwBg2 : wB.cell? ⟨g, 2, none⟩ = some (.int .i64 ((t.nx : Int) + 1)) := eB.cell 2
        have _fwBb1 : wB.cell? ⟨w.heap.size, 1, none⟩ = some (.string (bs name)) := bB.cell 1
        have _fwBb4 : wB.cell? ⟨w.heap.size, 4, none⟩ = some (.int .u8 n0) := bB.cell 4
        have _fwBb5 : wB.cell? ⟨w.heap.size, 5, none⟩ = some (.int .i64 n1) := bB.cell 5
        have _fwBb6 : wB.cell? ⟨w.heap.size, 6, none⟩ = some (.int .i64 n2) := bB.cell 6
        have _fwBb7 : wB.cell? ⟨w.heap.size, 7, none⟩ = some (.int .i64 n3) := bB.cell 7
        have _fwBb8 : wB.cell? ⟨w.heap.size, 8, none⟩ = some (.int .i64 n4) := bB.cell 8
        have _fwBb9 : wB.cell? ⟨w.heap.size, 9, none⟩ = some (.int .i64 n5) := bB.cell 9
        have _fwBb10 : wB.cell? ⟨w.heap.size, 10, none⟩ = some (.string (bs n6)) := bB.cell 10
        have _fwBb11 : wB.cell? ⟨w.heap.size, 11, none⟩ = some (.string (bs n7)) := bB.cell 11
        have _fwBb12 : wB.cell? ⟨w.heap.size, 12, none⟩ = some (.int .i64 n8) := bB.cell 12
        have _fwBb13 : wB.cell? ⟨w.heap.size, 13, none⟩ = some (.int .i64 n9) := bB.cell 13
        have _fwCg0 : wC.cell? ⟨g, 0, none⟩ = some (.map (some bn)) := eC.cell 0
        have _fwCg1 : wC.cell? ⟨g, 1, none⟩ = some (.map (some bf)) := eC.cell 1
        have _fwCg2 : wC.cell? ⟨g, 2, none⟩ = some (.int .i64 ((t.nx : Int) + 1)) := eC.cell 2
        have _fwCb1 : wC.cell? ⟨w.heap.size, 1, none⟩ = some (.string (bs name)) := bC.cell 1
        have _fwCb4 : wC.cell? ⟨w.heap.size, 4, none⟩ = some (.int .u8 n0) := bC.cell 4
        have _fwCb5 : wC.cell? ⟨w.heap.size, 5, none⟩ = some (.int .i64 n1) := bC.cell 5
        have _fwCb6 : wC.cell? ⟨w.heap.size, 6, none⟩ = some (.int .i64 n2) := bC.cell 6
        have _fwCb7 : wC.cell? ⟨w.heap.size, 7, none⟩ = some (.int .i64 n3) := bC.cell 7
        have _fwCb8 : wC.cell? ⟨w.heap.size, 8, none⟩ = some (.int .i64 n4) := bC.cell 8
        have _fwCb9 : wC.cell? ⟨w.heap.size, 9, none⟩ = some (.int .i64 n5) := bC.cell 9
        have _fwCb10 : wC.cell? ⟨w.heap.size, 10, none⟩ = some (.string (bs n6)) := bC.cell 10
        have _fwCb11 : wC.cell? ⟨w.heap.size, 11, none⟩ = some (.string (bs n7)) := bC.cell 11
        have _fwCb12 : wC.cell? ⟨w.heap.size, 12, none⟩ = some (.int .i64 n8) := bC.cell 12
        have _fwCb13 : wC.cell? ⟨w.heap.size, 13, none⟩ = some (.int .i64 n9) := bC.cell 13
        have FN := Lib.hid FIN
        clear FIN hw9 e9 e9' m9 p9 b9 k9 r1 r2 r3 r8 r10 mB ga gb sa sb eA eB bA bB pB pD gc gd sc sd eC eD bC mD kD hno hno1 hno2 hnf key2 hroom q0 q1 q2 qf2 r4 r5 r6 r7 r9 g0 hgn hgf hBn hBf
        go_region
        all_goals go_wp2_with fail
        all_goals go_ret
        all_goals exact ⟨rfl, FN.out⟩
    · rw [if_pos h0]
      have e1 : errV c = .iface 67 (.int .i64 c) := if_neg h0
      rw [e1] at SPC2 ⊢
      clear e1
      go_enter Tryd.func29, Tryd.ntmps29
      go_wp2_with fail
      refine (TR.out _).mono ?_
      rintro e w1 ⟨rfl, k1⟩
      have B1 := Lib.hid (thenB ((Below.refl _ _).alloc (Nat.le_refl _) _) k1)
      have z1 := k1.cell (p := ⟨w.heap.size, 1, none⟩) (by simp)
      have z2 := ((Blk.new w 43 (dvc ⟨what, name, dest, n, ⟨n0, n1, n2, n3, n4, n5, n6, n7, n8, n9⟩⟩)).below k1 (by simp)).cell 1
      clear k1 z1
      unfold dvc at z2
      go_wp2_with fail
      refine (SPC2.out _ B1.out).mono ?_
      rintro e w2 ⟨rfl, k2⟩
      have B2 := Lib.hid (thenB B1.out k2)
      clear k2
      go_wp2_with fail
      go_ret
      exact ⟨rfl, Turned.still HT.out B2.out⟩

end Go.Proofs.YtehooifcgfkngaaDoor
