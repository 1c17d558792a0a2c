/-
  member.apply: records applied to a member.
-/
import Derived.Test.YtkhkjacnoiopcaaGreatDoorZam
import Derived.Test.YtkhkjacnoiopcaaGreatDoorZan
import Derived.Test.YtkhkjacnoiopcaaGreatDoorZap
import Derived.Test.YtkhkjacnoiopcaaGreatDoorZar
set_option linter.unusedVariables false
set_option linter.unusedSimpArgs false

set_option linter.unusedVariables false
set_option linter.unusedSimpArgs false
namespace Go.Proofs.YtkhkjacnoiopcaaGreatDoor
open Go.RowKit Go.Shelf Tre Pk
attribute [local go_sem] Oper.semAt_some

theorem PxEnv.env {w : World} (h : PxEnv w) : Env w := ⟨h.1, h.2.2⟩
/-- The tables lie below block E. -/
def EnvB (E : Nat) (w : World) : Prop := ∃ w0, PxEnv w0 ∧ Below w0.heap.size w0 w ∧ w0.heap.size ≤ E
theorem EnvB.px {E : Nat} {w : World} (h : EnvB E w) : PxEnv w := by
  obtain ⟨w0, h0, hb, _⟩ := h
  exact h0.below hb
theorem EnvB.env {E : Nat} {w : World} (h : EnvB E w) : Env w := h.px.env
theorem EnvB.keep {E : Nat} {w w' : World} (h : EnvB E w) (k : KeepE E w.heap.size w w') : EnvB E w' := by
  obtain ⟨w0, h0, hb, he⟩ := h
  exact ⟨w0, h0, hb.trans ((k.mono hb.size).below he), he⟩
theorem EnvB.below {E : Nat} {w w' : World} (h : EnvB E w) (k : Below w.heap.size w w') : EnvB E w' := h.keep (KeepE.of k)

/-- A record that can be applied to any member. -/
def okRec (x : Px.Rec) : Prop := ∀ e, ∃ e', applyOne e x = some e'
theorem okRec_of {e e' : Ent} {x : Px.Rec} (h : applyOne e x = some e') : okRec x := by
  intro a
  unfold applyOne at h ⊢
  split
  · exact ⟨_, rfl⟩
  rename_i k1
  rw [if_neg k1] at h
  split
  · exact ⟨_, rfl⟩
  rename_i k2
  rw [if_neg k2] at h
  split
  · exact ⟨_, rfl⟩
  rename_i k3
  rw [if_neg k3] at h
  split
  · exact ⟨_, rfl⟩
  rename_i k4
  rw [if_neg k4] at h
  split
  · rename_i k5
    rw [if_pos k5] at h
    obtain ⟨y, hy, _⟩ := Option.map_eq_some_iff.1 h
    rw [hy]; exact ⟨_, rfl⟩
  rename_i k5
  rw [if_neg k5] at h
  split
  · rename_i k6
    rw [if_pos k6] at h
    obtain ⟨y, hy, _⟩ := Option.map_eq_some_iff.1 h
    rw [hy]; exact ⟨_, rfl⟩
  rename_i k6
  rw [if_neg k6] at h
  split
  · rename_i k7
    rw [if_pos k7] at h
    obtain ⟨y, hy, _⟩ := Option.map_eq_some_iff.1 h
    rw [hy]; exact ⟨_, rfl⟩
  · exact ⟨_, rfl⟩
abbrev OkR := {x : Px.Rec // okRec x}
theorem okRecs : ∀ {l : List Px.Rec} {e e' : Ent}, applyP l e = some e' → ∃ la : List OkR, la.map Subtype.val = l
  | [], _, _, _ => ⟨[], rfl⟩
  | x :: l, e, e', h => by
    obtain ⟨a, ha, hl⟩ := Option.bind_eq_some_iff.1 (show (applyOne e x).bind (applyP l) = some e' from h)
    obtain ⟨la, hla⟩ := okRecs hl
    exact ⟨⟨x, okRec_of ha⟩ :: la, by rw [List.map_cons, hla]⟩
theorem apply_snoc {pre : List Px.Rec} {x : Px.Rec} {e a b : Ent} (h : applyP pre e = some a) (h1 : applyOne a x = some b) : applyP (pre ++ [x]) e = some b := by
  rw [apply_app, h, Option.bind_some]
  show (applyOne a x).bind (applyP []) = _
  rw [h1]; rfl

theorem timeP_is {v : Bl} {t : Int × Int} (h : timeP v = some t) : Stp.Ok t.1 t.2 ∧ v = Stp.text t.1 t.2 := by
  unfold timeP at h
  split at h
  · rename_i hx
    cases h
    exact hx.choose_spec
  · cases h
theorem keyEq {k c : Bl} (h : k = c) : ((bs k).toList == c) = true := by rw [Lib.toList_data, bs_list, h]; exact beq_self_eq_true _
theorem keyNe {k c : Bl} (h : ¬ k = c) : ((bs k).toList == c) = false := by rw [Lib.toList_data, bs_list]; exact beq_eq_false_iff_ne.2 h
theorem Boxed.keepE {W W' : World} {E B : Nat} {t : TypeId} {v : Value} (h : Boxed W B t v) (k : KeepE E W.heap.size W W') (hn : B ≠ E) : Boxed W' B t v := Blk.keepE (cs := #[v]) h k (Array.getElem?_eq_some_iff.1 h).1 hn

/-- What lies in memory while records are applied. -/
structure AIn (w : World) (E : Nat) (e : Ent) (mv : Value) (pre : List OkR) (W : World) : Prop where
  box : Boxed W w.heap.size 139 (.pointer (some ⟨E, 0, none⟩))
  res : Boxed W (w.heap.size + 1) 31 .nilIface
  ent : ∃ a, applyP (pre.map Subtype.val) e = some a ∧ Blk W E 26 (evc a mv)
  kep : KeepE E w.heap.size w W
  sz : w.heap.size + 3 ≤ W.heap.size
theorem AIn.from_ {w W W' : World} {E D : Nat} {e : Ent} {mv : Value} {pre : List OkR} {row : Option Nat} (h : AIn w E e mv pre W) (hD : w.heap.size ≤ D) (hg : W.grownBy W' row) (hr : ∀ r, row = some r → D ≤ r ∧ ∃ o : Obj, W.heap[r]? = some o ∧ o.isCells = false) : AIn w E e mv pre W' := by
  refine ⟨boxed_from h.box hg hr, boxed_from h.res hg hr, ?_, h.kep.grown hg h.kep.size fun k e => .inl (Nat.le_trans hD (hr k e).1), Nat.le_trans h.sz hg.size⟩
  obtain ⟨a, h1, h2⟩ := h.ent
  exact ⟨a, h1, blk_from h2 hg hr⟩
theorem AIn.next {w W W' : World} {E : Nat} {e a b : Ent} {mv : Value} {pre : List OkR} {x : OkR} (h : AIn w E e mv pre W) (hEw : E < w.heap.size) (ha : applyP (pre.map Subtype.val) e = some a) (h1 : applyOne a x.1 = some b) (k : KeepE E W.heap.size W W') (hb : Blk W' E 26 (evc b mv)) : AIn w E e mv (pre ++ [x]) W' := by
  refine ⟨Boxed.keepE h.box k (by omega), Boxed.keepE h.res k (by omega), ⟨b, ?_, hb⟩, h.kep.step k h.kep.size, Nat.le_trans h.sz k.size⟩
  rw [List.map_append]
  exact apply_snoc ha h1

set_option maxRecDepth 100000 in
set_option maxHeartbeats 16000000 in
theorem apply_any {w : World} {E : Nat} {e e' : Ent} {mv v : Value} {l : List Px.Rec} (hB : Blk w E 26 (evc e mv)) (hv : PairsIn w v l) (ho : offE E v) (hap : applyP l e = some e') (hEnv : EnvB E w) :
    Calls Tryz.prog 90 #[.pointer (some ⟨E, 0, none⟩), v] w fun r w' => r = .returned .nilIface ∧ KeepE E w.heap.size w w' ∧ Blk w' E 26 (evc e' mv) := by
  obtain ⟨la, hla⟩ := okRecs hap
  obtain ⟨X, cap, hv', hlc, hll, hsz, hX⟩ := id hv
  subst hv'
  have hEw := hB.lt
  have H := Lib.hid hv
  have HX := Lib.hid hX
  have HO := Lib.hid ho
  have HAP := Lib.hid hap
  have HLA := Lib.hid hla
  have hll2 : la.length = l.length := by rw [← hla, List.length_map]
  refine callsIn_wide.1 (?_ : CallsIn Fence.wide 6 _ _ _ _ _)
  refine callsIn_of_wp_marks Tryz.func90 rfl trivial ?_ rfl
  simp only [Tryz.ntmps90, List.size_toArray, List.length_cons, List.length_nil, Nat.reduceAdd, Nat.reduceSub, Array.replicate_succ, Array.replicate_zero, List.push_toArray, List.append_toArray, List.nil_append, List.cons_append]
  clear hv hX hsz ho hap hla
  gi_wp2_with (refine ⟨trivial, ?_⟩; gi_at_call 141; refine (vals_call _ _ _ _ _).mono ?_; rintro e w' ⟨rfl, rfl⟩)
  have b0 := Boxed.new w 139 (.pointer (some ⟨E, 0, none⟩))
  have b1 := Boxed.new (w.alloc (.cells #[.pointer (some ⟨E, 0, none⟩)] 139)) 31 .nilIface
  have b2 := Boxed.new ((w.alloc (.cells #[.pointer (some ⟨E, 0, none⟩)] 139)).alloc (.cells #[.nilIface] 31)) 36 (.slice X l.length cap)
  simp only [World.size_alloc] at b1 b2
  have hB0 : Below w.heap.size w (((w.alloc (.cells #[.pointer (some ⟨E, 0, none⟩)] 139)).alloc (.cells #[.nilIface] 31)).alloc (.cells #[.slice X l.length cap] 36)) := (((Below.refl _ w).alloc (Nat.le_refl _) _).alloc (by simp) _).alloc (by simp; omega) _
  have hsz0 : (((w.alloc (.cells #[.pointer (some ⟨E, 0, none⟩)] 139)).alloc (.cells #[.nilIface] 31)).alloc (.cells #[.slice X l.length cap] 36)).heap.size = w.heap.size + 3 := by simp
  have k0 := (b0.alloc (.cells #[.nilIface] 31)).alloc (.cells #[.slice X l.length cap] 36)
  have k1 := b1.alloc (.cells #[.slice X l.length cap] 36)
  have kE := ((hB.alloc (.cells #[.pointer (some ⟨E, 0, none⟩)] 139)).alloc (.cells #[.nilIface] 31)).alloc (.cells #[.slice X l.length cap] 36)
  obtain ⟨W0, hW0⟩ : ∃ W0, (((w.alloc (.cells #[.pointer (some ⟨E, 0, none⟩)] 139)).alloc (.cells #[.nilIface] 31)).alloc (.cells #[.slice X l.length cap] 36)) = W0 := ⟨_, rfl⟩
  rw [hW0] at k0 k1 kE b2 hB0 hsz0 ⊢
  clear hW0 b0 b1
  have hPI : PairsIn W0 (.slice X l.length cap) (la.map Subtype.val) := by rw [HLA.out]; exact H.out.below hB0
  have hrow : ∀ W : World, Below (w.heap.size + 3) W0 W → la = [] ∨ ∃ b off cap', Value.slice X l.length cap = .slice (some ⟨b, off, none⟩) la.length cap' ∧ b < w.heap.size + 3 ∧ b ≠ E ∧ RowR W b off (la.map Subtype.val) := fun W hW => by
    rw [hll2, HLA.out]
    rcases HX.out with h0 | ⟨b, off, rfl, hb, hr⟩
    · exact .inl (List.length_eq_zero_iff.1 (by rw [hll2, h0]; rfl))
    · exact .inr ⟨b, off, cap, rfl, by omega, HO.out b off _ _ rfl, (hr.below hB0 hb).below (hW.mono (by omega)) hb⟩
  refine wpIn_rangeFunc_ownH rfl (by omega) (gf := 170) (lb := #[.pointer (some ⟨w.heap.size + 1 + 1, 0, none⟩)]) rfl trivial (enters_of Tryz.func170 (by kernel_rfl) rfl)
    (vals_seq Subtype.val 5 (by omega) (w.heap.size + 1 + 1) (w.heap.size + 3) E _ la W0 (by omega) (by omega) (by omega) b2.cell hPI hrow) KeepE.trans (fun W k o o' hk ho hc hw => KeepE.of (belowK_b (by omega) W k o o' hk ho hc hw)) (Below.refl _ _) (fun _ => rfl)
    (AIn w E e mv) (fun _ _ _ => False)
    (fun s A B row h hg hr => h.from_ (D := W0.heap.size) (by omega) hg hr)
    (fun c s A B row h hg hr => h)
    ⟨k0, k1, ⟨e, rfl, kE⟩, KeepE.of hB0, by omega⟩
    (fun y a' W => ∃ Bx, w.heap.size + 2 < Bx ∧ Blk W Bx 43 #[.string (bs y.1.1), .string (bs y.1.2)] ∧ a' = { tmps := #[.pointer (some ⟨E, 0, none⟩), .slice X l.length cap, .pointer (some ⟨w.heap.size, 0, none⟩), undef, .pointer (some ⟨w.heap.size + 1, 0, none⟩), .pointer (some ⟨Bx, 0, none⟩), undef, undef, .slice X l.length cap, .func (.func 170) #[] #[.pointer (some ⟨w.heap.size + 1 + 1, 0, none⟩)], .agg #[.string (bs y.1.1), .string (bs y.1.2)], undef, undef, undef, undef, undef, undef, undef, undef, undef, undef, undef, undef, undef, undef, undef, undef, undef, undef, undef, undef, undef, undef, undef, undef, undef, undef, undef, undef, undef, undef, undef, undef, undef, undef, undef, undef, undef, undef, undef, undef, undef, undef, undef, undef, undef, undef, undef, undef, undef, undef, undef, undef, undef, undef, undef, undef, undef, undef, undef, undef, undef, undef, undef, undef, undef, undef, undef, undef, undef], defers := [] })
    (fun y a' _ A B row hs hg hr => by obtain ⟨Bx, h1, h2, h3⟩ := hs; exact ⟨Bx, h1, blk_from h2 hg hr, h3⟩)
    ?assign ?body ?done ?stop
  case assign =>
    rintro lp pre y W K hI hK
    gi_wp2
    have hz := hI.sz
    have hkk : KeepE E W.heap.size W (W.alloc (.cells #[.string (bs y.1.1), .string (bs y.1.2)] 43)) := (KeepE.refl E _ W).alloc (Nat.le_refl _) _
    obtain ⟨a, ha, hEB⟩ := hI.ent
    exact hK _ _ ((KeepsOthers.alloc _ _).from _) (hkk.mono (by omega)) ⟨hI.box.alloc _, hI.res.alloc _, ⟨a, ha, hEB.alloc _⟩, hI.kep.alloc hI.kep.size _, by simp; omega⟩ ⟨W.heap.size, by omega, Blk.new W _ _, rfl⟩
  case body =>
    rintro lp pre y a' W hlp _ hI ⟨Bx, hBx, hy, rfl⟩ hlt
    obtain ⟨a, ha, hEB⟩ := hI.ent
    have hmx : Tryz.prog.follows .mixedOrders = true := by kernel_rfl
    have HNW := Lib.hid (show w.heap.size + 3 ≤ W.heap.size from hI.sz)
    have c0 := hI.box.cell
    have c1 : W.cell? ⟨Bx, 0, none⟩ = some (.string (bs y.1.1)) := hy.cell 0
    have c2 : W.cell? ⟨Bx, 1, none⟩ = some (.string (bs y.1.2)) := hy.cell 1
    have ltE : E < W.heap.size := hEB.lt
    have ltW := hI.sz
    have ltB : Bx < W.heap.size := hy.lt
    have neB : ¬ Bx = E := by omega
    have neE : ¬ E = Bx := by omega
    have e0 : W.cell? ⟨E, 0, none⟩ = some (.string (bs a.name)) := hEB.cell 0
    have f0 := hEB.frozen 0
    have e3 : W.cell? ⟨E, 3, none⟩ = some (.int .i64 a.uid) := hEB.cell 3
    have f3 := hEB.frozen 3
    have e4 : W.cell? ⟨E, 4, none⟩ = some (.int .i64 a.gid) := hEB.cell 4
    have f4 := hEB.frozen 4
    have e6 : W.cell? ⟨E, 6, none⟩ = some (.int .i64 a.sec) := hEB.cell 6
    have f6 := hEB.frozen 6
    have e7 : W.cell? ⟨E, 7, none⟩ = some (.int .i64 a.nano) := hEB.cell 7
    have f7 := hEB.frozen 7
    have e8 : W.cell? ⟨E, 8, none⟩ = some (.string (bs a.link)) := hEB.cell 8
    have f8 := hEB.frozen 8
    have e9 : W.cell? ⟨E, 9, none⟩ = some (.string (bs a.user)) := hEB.cell 9
    have f9 := hEB.frozen 9
    have e10 : W.cell? ⟨E, 10, none⟩ = some (.string (bs a.group)) := hEB.cell 10
    have f10 := hEB.frozen 10
    by_cases g0 : y.1.1 = kPath
    case pos =>
      have q0 : ((bs y.1.1).toList == [112, 97, 116, 104]) = true := keyEq g0
      have hone : applyOne a y.1 = some { a with name := y.1.2 } := by
        unfold applyOne
        rw [if_pos g0]
      have HN := Lib.hid (fun W' (kk : KeepE E W.heap.size W W') (hb : Blk W' E 26 (evc { a with name := y.1.2 } mv)) => hI.next (x := y) hEw ha hone kk hb)
      have HS := Lib.hid (hEB.set_ 0 (.string (bs y.1.2)))
      clear hone
      clear g0
      gi_wp2
      exact ⟨(KeepsOthers.setCell _ _ _).from _, (KeepE.refl E _ W).set_ _ _, HN.out _ ((KeepE.refl E _ W).set_ _ _) HS.out⟩
    have q0 : ((bs y.1.1).toList == [112, 97, 116, 104]) = false := keyNe g0
    by_cases g1 : y.1.1 = kLink
    case pos =>
      have q1 : ((bs y.1.1).toList == [108, 105, 110, 107, 112, 97, 116, 104]) = true := keyEq g1
      have hone : applyOne a y.1 = some { a with link := y.1.2 } := by
        unfold applyOne
        rw [if_neg g0, if_pos g1]
      have HN := Lib.hid (fun W' (kk : KeepE E W.heap.size W W') (hb : Blk W' E 26 (evc { a with link := y.1.2 } mv)) => hI.next (x := y) hEw ha hone kk hb)
      have HS := Lib.hid (hEB.set_ 8 (.string (bs y.1.2)))
      clear hone
      clear g1
      gi_wp2
      exact ⟨(KeepsOthers.setCell _ _ _).from _, (KeepE.refl E _ W).set_ _ _, HN.out _ ((KeepE.refl E _ W).set_ _ _) HS.out⟩
    have q1 : ((bs y.1.1).toList == [108, 105, 110, 107, 112, 97, 116, 104]) = false := keyNe g1
    by_cases g2 : y.1.1 = kUser
    case pos =>
      have q2 : ((bs y.1.1).toList == [117, 110, 97, 109, 101]) = true := keyEq g2
      have hone : applyOne a y.1 = some { a with user := y.1.2 } := by
        unfold applyOne
        rw [if_neg g0, if_neg g1, if_pos g2]
      have HN := Lib.hid (fun W' (kk : KeepE E W.heap.size W W') (hb : Blk W' E 26 (evc { a with user := y.1.2 } mv)) => hI.next (x := y) hEw ha hone kk hb)
      have HS := Lib.hid (hEB.set_ 9 (.string (bs y.1.2)))
      clear hone
      clear g2
      gi_wp2
      exact ⟨(KeepsOthers.setCell _ _ _).from _, (KeepE.refl E _ W).set_ _ _, HN.out _ ((KeepE.refl E _ W).set_ _ _) HS.out⟩
    have q2 : ((bs y.1.1).toList == [117, 110, 97, 109, 101]) = false := keyNe g2
    by_cases g3 : y.1.1 = kGroup
    case pos =>
      have q3 : ((bs y.1.1).toList == [103, 110, 97, 109, 101]) = true := keyEq g3
      have hone : applyOne a y.1 = some { a with group := y.1.2 } := by
        unfold applyOne
        rw [if_neg g0, if_neg g1, if_neg g2, if_pos g3]
      have HN := Lib.hid (fun W' (kk : KeepE E W.heap.size W W') (hb : Blk W' E 26 (evc { a with group := y.1.2 } mv)) => hI.next (x := y) hEw ha hone kk hb)
      have HS := Lib.hid (hEB.set_ 10 (.string (bs y.1.2)))
      clear hone
      clear g3
      gi_wp2
      exact ⟨(KeepsOthers.setCell _ _ _).from _, (KeepE.refl E _ W).set_ _ _, HN.out _ ((KeepE.refl E _ W).set_ _ _) HS.out⟩
    have q3 : ((bs y.1.1).toList == [103, 110, 97, 109, 101]) = false := keyNe g3
    by_cases g4 : y.1.1 = kTime
    case pos =>
      have q4 : ((bs y.1.1).toList == [109, 116, 105, 109, 101]) = true := keyEq g4
      obtain ⟨b, hone⟩ := y.2 a
      have hone' := hone
      unfold applyOne at hone'
      rw [if_neg g0, if_neg g1, if_neg g2, if_neg g3, if_pos g4] at hone'
      obtain ⟨t, ht, hb⟩ := Option.map_eq_some_iff.1 hone'
      obtain ⟨htok, htx⟩ := timeP_is ht
      subst hb
      have PT := Lib.hid (fun w1 (he : EnvB E w1) => parse_text htok w1 he.env)
      have HTX := Lib.hid htx
      have HN := Lib.hid (fun W' (kk : KeepE E W.heap.size W W') (hb : Blk W' E 26 (evc { a with sec := t.1, nano := t.2 } mv)) => hI.next (x := y) hEw ha hone kk hb)
      have HEB := Lib.hid hEB
      have HEV := Lib.hid (hEnv.keep (hI.kep.mono (Nat.le_refl _)))
      have hlt := hI.sz
      clear hone hone' ht htok htx
      clear g4
      gi_wp2
      gi_region_with_o (refine ⟨trivial, ?_⟩; gi_at_call 142; rw [HTX.out]; refine (CallsIn.inRound _ (callsIn_wide.2 (PT.out _ (HEV.out.below (Below.refl _ _).drew)))).mono ?_; rintro e2 w1 ⟨rfl, h0⟩; have h1 : Below W.heap.size W w1 := ((Below.refl W.heap.size W).drew).trans h0; clear h0; have z0 : w1.cell? ⟨w.heap.size, 0, none⟩ = some (.pointer (some ⟨E, 0, none⟩)) := (h1.cell (p := ⟨w.heap.size, 0, none⟩) (by show w.heap.size < W.heap.size; omega)).trans c0; have K1 := Lib.hid h1; have hE1 := HEB.out.below h1 HEB.out.lt; have HE1 := Lib.hid hE1; have x6 : w1.cell? ⟨E, 6, none⟩ = some (.int .i64 a.sec) := hE1.cell 6; have x7 : w1.cell? ⟨E, 7, none⟩ = some (.int .i64 a.nano) := hE1.cell 7; have y6 := hE1.frozen 6; have y7 := hE1.frozen 7; clear h1 hE1)
      all_goals gi_wp2
      all_goals exact ⟨((KeepsOthers.of_grownBy (only_of_below K1.out none) (fun j o e => by cases e)).trans ((KeepsOthers.setCell _ _ _).trans (KeepsOthers.setCell _ _ _))).from _, (((KeepE.of (K1.out.mono HNW.out)).set_ _ _).set_ _ _), HN.out _ (((KeepE.of K1.out).set_ _ _).set_ _ _) ((HE1.out.set_ 6 _).set_ 7 _)⟩
    have q4 : ((bs y.1.1).toList == [109, 116, 105, 109, 101]) = false := keyNe g4
    by_cases g5 : y.1.1 = kUid
    case pos =>
      have q5 : ((bs y.1.1).toList == [117, 105, 100]) = true := keyEq g5
      obtain ⟨b, hone⟩ := y.2 a
      have hone' := hone
      unfold applyOne at hone'
      rw [if_neg g0, if_neg g1, if_neg g2, if_neg g3, if_neg g4, if_pos g5] at hone'
      obtain ⟨t, ht, hb⟩ := Option.map_eq_some_iff.1 hone'
      subst hb
      have PT := Lib.hid (fun w1 => decimal_any y.1.2 t ht w1)
      have HN := Lib.hid (fun W' (kk : KeepE E W.heap.size W W') (hb : Blk W' E 26 (evc { a with uid := t } mv)) => hI.next (x := y) hEw ha hone kk hb)
      have HEB := Lib.hid hEB
      clear hone hone' ht
      clear g5
      gi_wp2
      gi_region_with_o (refine ⟨trivial, ?_⟩; gi_at_call 143; refine (CallsIn.inRound _ (callsIn_wide.2 (PT.out _))).mono ?_; rintro e2 w1 ⟨rfl, h0⟩; have h1 : Below W.heap.size W w1 := ((Below.refl W.heap.size W).drew).trans h0; clear h0; have z0 : w1.cell? ⟨w.heap.size, 0, none⟩ = some (.pointer (some ⟨E, 0, none⟩)) := (h1.cell (p := ⟨w.heap.size, 0, none⟩) (by show w.heap.size < W.heap.size; omega)).trans c0; have K1 := Lib.hid h1; have hE1 := HEB.out.below h1 HEB.out.lt; have HE1 := Lib.hid hE1; have x6 : w1.cell? ⟨E, 3, none⟩ = some (.int .i64 a.uid) := hE1.cell 3; have y6 := hE1.frozen 3; clear h1 hE1)
      all_goals gi_wp2
      all_goals exact ⟨((KeepsOthers.of_grownBy (only_of_below K1.out none) (fun j o e => by cases e)).trans (KeepsOthers.setCell _ _ _)).from _, ((KeepE.of (K1.out.mono HNW.out)).set_ _ _), HN.out _ ((KeepE.of K1.out).set_ _ _) (HE1.out.set_ 3 _)⟩
    have q5 : ((bs y.1.1).toList == [117, 105, 100]) = false := keyNe g5
    by_cases g6 : y.1.1 = kGid
    case pos =>
      have q6 : ((bs y.1.1).toList == [103, 105, 100]) = true := keyEq g6
      obtain ⟨b, hone⟩ := y.2 a
      have hone' := hone
      unfold applyOne at hone'
      rw [if_neg g0, if_neg g1, if_neg g2, if_neg g3, if_neg g4, if_neg g5, if_pos g6] at hone'
      obtain ⟨t, ht, hb⟩ := Option.map_eq_some_iff.1 hone'
      subst hb
      have PT := Lib.hid (fun w1 => decimal_any y.1.2 t ht w1)
      have HN := Lib.hid (fun W' (kk : KeepE E W.heap.size W W') (hb : Blk W' E 26 (evc { a with gid := t } mv)) => hI.next (x := y) hEw ha hone kk hb)
      have HEB := Lib.hid hEB
      clear hone hone' ht
      clear g6
      gi_wp2
      gi_region_with_o (refine ⟨trivial, ?_⟩; gi_at_call 143; refine (CallsIn.inRound _ (callsIn_wide.2 (PT.out _))).mono ?_; rintro e2 w1 ⟨rfl, h0⟩; have h1 : Below W.heap.size W w1 := ((Below.refl W.heap.size W).drew).trans h0; clear h0; have z0 : w1.cell? ⟨w.heap.size, 0, none⟩ = some (.pointer (some ⟨E, 0, none⟩)) := (h1.cell (p := ⟨w.heap.size, 0, none⟩) (by show w.heap.size < W.heap.size; omega)).trans c0; have K1 := Lib.hid h1; have hE1 := HEB.out.below h1 HEB.out.lt; have HE1 := Lib.hid hE1; have x6 : w1.cell? ⟨E, 4, none⟩ = some (.int .i64 a.gid) := hE1.cell 4; have y6 := hE1.frozen 4; clear h1 hE1)
      all_goals gi_wp2
      all_goals exact ⟨((KeepsOthers.of_grownBy (only_of_below K1.out none) (fun j o e => by cases e)).trans (KeepsOthers.setCell _ _ _)).from _, ((KeepE.of (K1.out.mono HNW.out)).set_ _ _), HN.out _ ((KeepE.of K1.out).set_ _ _) (HE1.out.set_ 4 _)⟩
    have q6 : ((bs y.1.1).toList == [103, 105, 100]) = false := keyNe g6
    have hone : applyOne a y.1 = some a := by
      unfold applyOne
      rw [if_neg g0, if_neg g1, if_neg g2, if_neg g3, if_neg g4, if_neg g5, if_neg g6]
    have HN := Lib.hid (hI.next (x := y) (W' := W) hEw ha hone (KeepE.refl _ _ _) hEB)
    clear hone
    gi_wp2
    exact ⟨KeepsFrom.refl _ _, KeepE.refl _ _ _, HN.out⟩
  case done =>
    rintro D ys W hD rfl hI hK
    obtain ⟨a, ha, hEB⟩ := hI.ent
    have haa : a = e' := by
      rw [HLA.out, HAP.out] at ha
      exact (Option.some.inj ha).symm
    subst haa
    have d1 := hI.res.cell
    have f1 := hI.res.frozen
    gi_wp2
    have r1 := hI.res.set .nilIface
    have hK2 := KeepsOthers.same (KeepsOthers.setCell W ⟨w.heap.size + 1, 0, none⟩ .nilIface) D _ hK rfl
    have c1 := (boxed_putD r1 (.deferred none) hK2 rfl).cell
    have hE1 : Blk (W.setCell ⟨w.heap.size + 1, 0, none⟩ .nilIface) E 26 (evc a mv) := hEB.far (p := ⟨w.heap.size + 1, 0, none⟩) (by show E ≠ w.heap.size + 1; omega) _
    have hE2 := blk_from (D := 0) hE1 (grownBy_putObj' _ D (.deferred none)) (fun r e => by cases e; exact ⟨Nat.zero_le _, _, hK2, rfl⟩)
    have hk1 : KeepE E w.heap.size w (W.setCell ⟨w.heap.size + 1, 0, none⟩ .nilIface) := hI.kep.trans (KeepE.of ((Below.refl w.heap.size W).setCell (p := ⟨w.heap.size + 1, 0, none⟩) (by show _ ≤ w.heap.size + 1; omega) _))
    have hk2 := hk1.trans (KeepE.of (belowK_b (w := w) (n₀ := w.heap.size) (Nat.le_refl _) _ D _ (.deferred none) (by omega) hK2 rfl rfl))
    refine ⟨by simp, .inl ⟨_, _, rfl, run_takeDeferred hK2, ?_⟩⟩
    refine ⟨.nilIface, ?_, rfl, hk2, hE2⟩
    simp [results, Tryz.f90, go_sem, c1]
  case stop =>
    rintro D c pre W hD _ h hK
    exact h.elim

end Go.Proofs.YtkhkjacnoiopcaaGreatDoor
