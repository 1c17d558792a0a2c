/-
  The walk of MemberOver.
-/
import Derived.Test.YtkhkjacnoiopcaaGreatDoorZbn
import Derived.Test.YtkhkjacnoiopcaaGreatDoorZbo
import Derived.Test.YtkhkjacnoiopcaaGreatDoorRows
import Derived.KernelRfl
import Derived.MakeChecks
import Derived.Lib.LaidTab
import Derived.Test.YtkhkjacnoiopcaaGreatDoorZaa
import Derived.Test.YtkhkjacnoiopcaaGreatDoorCards
import Derived.Test.YtkhkjacnoiopcaaGreatDoorTie
import Derived.ProofKit
import Derived.OpenShut
import Derived.ShutString
import Derived.ChangeOld
import Derived.Below
import Derived.SizedLaws
import Derived.Deep.DeepHandedRow
import Derived.SevenTiedAt
import Derived.LaidMore
import Derived.Lay
import Derived.Test.YtkhkjacnoiopcaaGreatDoorZfact
set_option linter.unusedVariables false
set_option linter.unusedSimpArgs false

set_option linter.unusedVariables false
set_option linter.unusedSimpArgs false
namespace Go.Proofs.YtkhkjacnoiopcaaGreatDoor
open Go.RowKit Tre Pk

structure EnvM (w : World) : Prop where
  px : PxEnv w
  er : ErrT w
theorem EnvM.below {w w' : World} (h : EnvM w) (hb : Below w.heap.size w w') : EnvM w' := ⟨EnvB.px (E := w.heap.size) ⟨w, h.px, hb, Nat.le_refl _⟩, h.er.below hb⟩

theorem pairs_two {w : World} {G : Nat} {N : Bl} (h : Blk w G 43 #[.string (bs kPath), .string (bs N), .string (bs kUser), .string (bs rootB)]) : HasR w 0 (.slice (some ⟨G, 0, none⟩) 2 2) (overG N) :=
  ⟨rfl, .inr ⟨G, 2, _, rfl, Nat.zero_le _, h, Nat.le_refl _, by unfold maxLen; omega, rfl, rfl⟩⟩
theorem str_ne {l : Bl} (h : l ≠ []) : (bs l).toList.isEmpty = false := by
  rw [Lib.toList_data, bs_list]
  cases l with
  | nil => exact absurd rfl h
  | cons _ _ => rfl
theorem str_emp : (bs []).toList.isEmpty = true := by rw [Lib.toList_data, bs_list]; rfl
/-- The case that the law tells of. -/
def goodO (e : Ent) (N : Bl) : Prop := rightE (wantE e N) = true ∧ (e.kind = 48 → N.getLast? ≠ some 47)

/-- What Read hands back to the law: told of any member, and of the one that is wanted where the law tells of it. -/
def OverP (e : Ent) (m N : Bl) (w : World) (x : Ending) (w' : World) : Prop :=
  (∃ (eM : Ent) (nv : Int) (hv er : Value), x = .returned (.tuple #[ev eM (.slice none 0 0), .int .i64 nv, hv, er]) ∧ (er = .nilIface ∨ ∃ t v, er = .iface t v) ∧ (goodO e N → eM = wantE e N ∧ nv = m.length ∧ er = .nilIface ∧ HasR w' 0 hv (overG N))) ∧ Below w.heap.size w w'
theorem over_read {W : World} {G : Nat} {e : Ent} {m N : Bl} (hB : Blk W G 43 #[.string (bs kPath), .string (bs N), .string (bs kUser), .string (bs rootB)]) (hE : EnvM W) (hr : rightE e = true) (hm : oldM 2 e = some m) (hml : m.length ≤ 100000) (hN : N.length ≤ 100) (hne : N ≠ []) :
    Calls Tryz.prog 20 #[.string (bs m), .int .i64 0, .slice (some ⟨G, 0, none⟩) 2 2] W (OverP e m N W) := by
  obtain ⟨_, _, _, _, _, _, _, _, _, hmap, hsz, hn0⟩ := old_facts (s := m) (off := 0) [] hr hm ⟨by unfold fld; simp, by omega⟩
  have hp : PairsIn W (.slice (some ⟨G, 0, none⟩) 2 2) (overG N) := pairs_of_has (pairs_two hB) (by unfold overG; simp) (by
    intro r hr
    unfold overG at hr
    rcases List.mem_cons.1 hr with rfl | hr
    · exact ⟨by show (4 : Nat) ≤ _; omega, by show N.length ≤ _; omega⟩
    · rw [List.mem_singleton.1 hr]
      exact ⟨by show (5 : Nat) ≤ _; omega, by show (4 : Nat) ≤ _; omega⟩)
  have h := read_ustar (s := m) (off := 0) (e1 := { e with name := N, user := rootB, data := [], map := [] }) hp (fun h => absurd h (by unfold overG; simp)) hE.px hE.er (by omega) (by unfold overG; simp) hr hm ⟨by unfold fld; simp, by omega⟩
    (by rw [recs_over hne, apply_over]) rfl rfl (by show N.length ≤ _; omega) rfl (by rw [recs_over hne]; exact over_nomajor N)
  have hset : ({ ({ e with name := N, user := rootB, data := [], map := [] } : Ent) with data := e.data } : Ent) = { e with name := N, user := rootB } := by
    obtain ⟨n, k, mode, uid, gid, size, sec, nano, link, user, group, major, minor, data, map⟩ := e
    simp only at hmap
    subst hmap
    rfl
  rw [hset, Nat.zero_add] at h
  have hg : goodO e N → settledP { e with name := N, user := rootB } = wantE e N := fun h => settled_over hr h.2
  refine h.mono ?_
  rintro x w' ⟨⟨_, v', hv, rfl⟩ | ⟨h0, p, rfl⟩, hb⟩
  · exact ⟨⟨_, _, v', .nilIface, rfl, .inl rfl, fun h => ⟨hg h, rfl, rfl, hv.mono (Nat.zero_le _)⟩⟩, hb⟩
  · refine ⟨⟨zeroE, 0, .slice none 0 0, _, rfl, .inr ⟨_, _, rfl⟩, fun h => ?_⟩, hb⟩
    rw [hg h, h.1] at h0
    cases h0

/-- A region's operations. -/
theorem mo_r16 {y : World} {e eM : Ent} {NW : Bl} {A0 : Option Addr} {mlen mcap Mb Q G : Nat} {T : ByteArray} {nv : Int} {hv : Value} (hT : (T.size : Int) = nv) (MY : Hid (Blk y Mb 26 #[.string (bs eM.name), .int .u8 eM.kind, .int .i64 eM.mode, .int .i64 eM.uid, .int .i64 eM.gid, .int .i64 eM.size, .int .i64 eM.sec, .int .i64 eM.nano, .string (bs eM.link), .string (bs eM.user), .string (bs eM.group), .int .i64 eM.major, .int .i64 eM.minor, .string (bs eM.data), .slice none 0 0])) (QY : Hid (Blk y Q 26 #[.string (bs NW), .int .u8 e.kind, .int .i64 e.mode, .int .i64 e.uid, .int .i64 e.gid, .int .i64 e.size, .int .i64 e.sec, .int .i64 e.nano, .string (bs e.link), .string ⟨#[114, 111, 111, 116]⟩, .string (bs e.group), .int .i64 e.major, .int .i64 e.minor, .string (bs e.data), .slice A0 mlen mcap]))
    (EQ : Hid (Calls Tryz.prog 24 #[hv, .slice (some ⟨G, 0, none⟩) 2 2] y fun r w' => r = .returned (.bool true) ∧ Below y.heap.size y w'))
    (SAM : Hid (∀ w', Below y.heap.size y w' → Calls Tryz.prog 19 #[.agg #[.string (bs eM.name), .int .u8 eM.kind, .int .i64 eM.mode, .int .i64 eM.uid, .int .i64 eM.gid, .int .i64 eM.size, .int .i64 eM.sec, .int .i64 eM.nano, .string (bs eM.link), .string (bs eM.user), .string (bs eM.group), .int .i64 eM.major, .int .i64 eM.minor, .string (bs eM.data), .slice none 0 0], .agg #[.string (bs NW), .int .u8 e.kind, .int .i64 e.mode, .int .i64 e.uid, .int .i64 e.gid, .int .i64 e.size, .int .i64 e.sec, .int .i64 e.nano, .string (bs e.link), .string ⟨#[114, 111, 111, 116]⟩, .string (bs e.group), .int .i64 e.major, .int .i64 e.minor, .string (bs e.data), .slice A0 mlen mcap]] w' fun r w'' => r = .returned (.bool true) ∧ Below w'.heap.size w' w''))
    {ops : Array Oper} (hops : opsAt Tryz.f8 16 = some ops) {R : Exit → Act → World → Prop} {u0 u1 u2 u3 u4 u12 u13 u14 u15 u16 u17 u18 u19 u20 u21 u22 u23 u24 u25 u26 u27 u28 u29 u30 u31 u32 u33 u34 u35 u36 u37 u38 u39 u40 u41 u42 u43 u44 u45 u46 u47 u48 u49 u50 u51 u52 u53 u54 u55 u56 u57 u58 u59 u60 u61 u62 u63 u64 u65 u66 u67 u68 u69 u70 u71 u72 u73 u74 u75 u76 u77 u78 u79 u80 u81 u82 u83 : Value}
    (hR : ∀ (X : World) (v66 v67 v68 v69 v70 v71 v72 v73 v74 v75 v76 v77 v78 v79 v80 v81 v82 v83 : Value), Below y.heap.size y X → R .normal ⟨#[u0, u1, u2, u3, .bool true, .string T, .nilIface, .slice (some ⟨G, 0, none⟩) 2 2, .pointer (some ⟨Mb, 0, none⟩), .int .i64 nv, hv, .pointer (some ⟨Q, 0, none⟩), u12, u13, u14, u15, u16, u17, u18, u19, u20, u21, u22, u23, u24, u25, u26, u27, u28, u29, u30, u31, u32, u33, u34, u35, u36, u37, u38, u39, u40, u41, u42, u43, u44, u45, u46, u47, u48, u49, u50, u51, u52, u53, u54, u55, u56, u57, u58, u59, u60, u61, u62, u63, u64, u65, v66, v67, v68, v69, v70, v71, v72, v73, v74, v75, v76, v77, v78, v79, v80, v81, v82, v83], []⟩ X) :
    Code.wp Tryz.prog (.region 16 ops false) R ⟨#[u0, u1, u2, u3, u4, .string T, .nilIface, .slice (some ⟨G, 0, none⟩) 2 2, .pointer (some ⟨Mb, 0, none⟩), .int .i64 nv, hv, .pointer (some ⟨Q, 0, none⟩), u12, u13, u14, u15, u16, u17, u18, u19, u20, u21, u22, u23, u24, u25, u26, u27, u28, u29, u30, u31, u32, u33, u34, u35, u36, u37, u38, u39, u40, u41, u42, u43, u44, u45, u46, u47, u48, u49, u50, u51, u52, u53, u54, u55, u56, u57, u58, u59, u60, u61, u62, u63, u64, u65, u66, u67, u68, u69, u70, u71, u72, u73, u74, u75, u76, u77, u78, u79, u80, u81, u82, u83], []⟩ y := by
  unfold opsAt Tryz.f8 at hops
  injection hops with hops
  subst hops
  have HR := Lib.hid hR
  clear hR
  go_wp2_with fail
  refine EQ.out.mono ?_
  rintro r y3 ⟨rfl, h3⟩
  have BY3 := Lib.hid h3
  have MY3 := Lib.hid (MY.out.below h3 MY.out.lt)
  have QY3 := Lib.hid (QY.out.below h3 QY.out.lt)
  clear h3 EQ MY QY
  have c0 : y3.cell? ⟨Mb, 0, none⟩ = some (.string (bs eM.name)) := MY3.out.cell 0
  have c1 : y3.cell? ⟨Mb, 1, none⟩ = some (.int .u8 eM.kind) := MY3.out.cell 1
  have c2 : y3.cell? ⟨Mb, 2, none⟩ = some (.int .i64 eM.mode) := MY3.out.cell 2
  have c3 : y3.cell? ⟨Mb, 3, none⟩ = some (.int .i64 eM.uid) := MY3.out.cell 3
  have c4 : y3.cell? ⟨Mb, 4, none⟩ = some (.int .i64 eM.gid) := MY3.out.cell 4
  have c5 : y3.cell? ⟨Mb, 5, none⟩ = some (.int .i64 eM.size) := MY3.out.cell 5
  have c6 : y3.cell? ⟨Mb, 6, none⟩ = some (.int .i64 eM.sec) := MY3.out.cell 6
  have c7 : y3.cell? ⟨Mb, 7, none⟩ = some (.int .i64 eM.nano) := MY3.out.cell 7
  have c8 : y3.cell? ⟨Mb, 8, none⟩ = some (.string (bs eM.link)) := MY3.out.cell 8
  have c9 : y3.cell? ⟨Mb, 9, none⟩ = some (.string (bs eM.user)) := MY3.out.cell 9
  have c10 : y3.cell? ⟨Mb, 10, none⟩ = some (.string (bs eM.group)) := MY3.out.cell 10
  have c11 : y3.cell? ⟨Mb, 11, none⟩ = some (.int .i64 eM.major) := MY3.out.cell 11
  have c12 : y3.cell? ⟨Mb, 12, none⟩ = some (.int .i64 eM.minor) := MY3.out.cell 12
  have c13 : y3.cell? ⟨Mb, 13, none⟩ = some (.string (bs eM.data)) := MY3.out.cell 13
  have c14 : y3.cell? ⟨Mb, 14, none⟩ = some (.slice none 0 0) := MY3.out.cell 14
  have d0 : y3.cell? ⟨Q, 0, none⟩ = some (.string (bs NW)) := QY3.out.cell 0
  have d1 : y3.cell? ⟨Q, 1, none⟩ = some (.int .u8 e.kind) := QY3.out.cell 1
  have d2 : y3.cell? ⟨Q, 2, none⟩ = some (.int .i64 e.mode) := QY3.out.cell 2
  have d3 : y3.cell? ⟨Q, 3, none⟩ = some (.int .i64 e.uid) := QY3.out.cell 3
  have d4 : y3.cell? ⟨Q, 4, none⟩ = some (.int .i64 e.gid) := QY3.out.cell 4
  have d5 : y3.cell? ⟨Q, 5, none⟩ = some (.int .i64 e.size) := QY3.out.cell 5
  have d6 : y3.cell? ⟨Q, 6, none⟩ = some (.int .i64 e.sec) := QY3.out.cell 6
  have d7 : y3.cell? ⟨Q, 7, none⟩ = some (.int .i64 e.nano) := QY3.out.cell 7
  have d8 : y3.cell? ⟨Q, 8, none⟩ = some (.string (bs e.link)) := QY3.out.cell 8
  have d9 : y3.cell? ⟨Q, 9, none⟩ = some (.string ⟨#[114, 111, 111, 116]⟩) := QY3.out.cell 9
  have d10 : y3.cell? ⟨Q, 10, none⟩ = some (.string (bs e.group)) := QY3.out.cell 10
  have d11 : y3.cell? ⟨Q, 11, none⟩ = some (.int .i64 e.major) := QY3.out.cell 11
  have d12 : y3.cell? ⟨Q, 12, none⟩ = some (.int .i64 e.minor) := QY3.out.cell 12
  have d13 : y3.cell? ⟨Q, 13, none⟩ = some (.string (bs e.data)) := QY3.out.cell 13
  have d14 : y3.cell? ⟨Q, 14, none⟩ = some (.slice A0 mlen mcap) := QY3.out.cell 14
  go_wp2_with fail
  refine (SAM.out _ BY3.out).mono ?_
  rintro r y4 ⟨rfl, h4⟩
  have BY4 := Lib.hid (thenB BY3.out h4)
  clear h4 SAM MY3 QY3 c0 c1 c2 c3 c4 c5 c6 c7 c8 c9 c10 c11 c12 c13 c14 d0 d1 d2 d3 d4 d5 d6 d7 d8 d9 d10 d11 d12 d13 d14
  go_wp2_with fail
  exact HR.out y4 _ _ _ _ _ _ _ _ _ _ _ _ _ _ _ _ _ _ BY4.out

set_option maxRecDepth 100000 in
set_option maxHeartbeats 16000000 in
theorem memberOver_main (e : Ent) (mv : Value) (N : Bl) (w : World) (he : Came w e mv) (hE : EnvM w) (hNs : N.length ≤ 140737488351232) :
    Calls Tryz.prog 8 #[ev e mv, .string (bs N)] w fun r w' => r = .returned (.bool true) ∧ Below w.heap.size w w' := by
  have hfm : ∃ A n c, mv = .slice A n c := by obtain ⟨A, c, h, _⟩ := he.pcs; exact ⟨A, _, c, h⟩
  obtain ⟨A0, mlen, mcap, rfl⟩ := hfm
  obtain ⟨W, hW⟩ : ∃ W, W = w.alloc (.cells #[.string (bs e.name), .int .u8 e.kind, .int .i64 e.mode, .int .i64 e.uid, .int .i64 e.gid, .int .i64 e.size, .int .i64 e.sec, .int .i64 e.nano, .string (bs e.link), .string (bs e.user), .string (bs e.group), .int .i64 e.major, .int .i64 e.minor, .string (bs e.data), .slice A0 mlen mcap] 26) := ⟨_, rfl⟩
  have HB0 := Lib.hid (show Below w.heap.size w W by rw [hW]; exact (Below.refl _ _).alloc (Nat.le_refl _) _)
  have KP := Lib.hid (show Blk W w.heap.size 26 #[.string (bs e.name), .int .u8 e.kind, .int .i64 e.mode, .int .i64 e.uid, .int .i64 e.gid, .int .i64 e.size, .int .i64 e.sec, .int .i64 e.nano, .string (bs e.link), .string (bs e.user), .string (bs e.group), .int .i64 e.major, .int .i64 e.minor, .string (bs e.data), .slice A0 mlen mcap] by rw [hW]; exact Blk.new w 26 _)
  obtain ⟨P, hP⟩ : ∃ P, P = w.heap.size := ⟨_, rfl⟩
  have lP : P < W.heap.size := by rw [hP]; exact KP.out.lt
  have FIN := Lib.hid (fun w' (h : Below W.heap.size W w') => (thenB HB0.out h : Below w.heap.size w w'))
  have CE := Lib.hid (he.below HB0.out)
  have EE := Lib.hid (hE.below HB0.out)
  have TO := Lib.hid (told_any W EE.out.px EE.out.er)
  have LA := Lib.hid (fun w' (hb : Below W.heap.size W w') => large_any e (.slice A0 mlen mcap) w' (CE.out.below hb))
  have WT := Lib.hid (fun w' (hb : Below W.heap.size W w') (hl : largeE e = false) => write_two e (.slice A0 mlen mcap) w' (CE.out.below hb) hl)
  have HW := Lib.hid hW
  have HP := Lib.hid hP
  have hsz : (bs N).size = N.length := bs_size _
  obtain ⟨S, hS⟩ : ∃ S, S = bs N := ⟨_, rfl⟩
  have HS := Lib.hid hS
  rw [← hS] at hsz ⊢
  rw [← hP] at KP
  unfold ev evc at LA WT ⊢
  clear he hE hW hP hS
  go_enter Tryz.func8, Tryz.ntmps8
  repeat' ((fail_if_success (with_reducible refine halt_at 1 ?_)); first | go_values | go_skip | go_guarded | go_step | go_upon | go_back | (simp only [Int.not_lt, Int.not_le] at *; go_simp) | (go_values <;> (try go_simp)) | (go_ite <;> go_prune <;> (try go_simp)) | (split <;> (first | (rename_i hx; exact (hx _ rfl).elim) | go_prune)))
  rw [← HW.out, ← HP.out]
  clear HW
  go_wp2_with fail
  refine TO.out.mono ?_
  rintro r w1 ⟨rfl, h1⟩
  have B1 := Lib.hid h1
  have K1 := Lib.hid (KP.out.below h1 KP.out.lt)
  clear h1 TO KP
  have c0 : w1.cell? ⟨P, 0, none⟩ = some (.string (bs e.name)) := K1.out.cell 0
  have c1 : w1.cell? ⟨P, 1, none⟩ = some (.int .u8 e.kind) := K1.out.cell 1
  have c2 : w1.cell? ⟨P, 2, none⟩ = some (.int .i64 e.mode) := K1.out.cell 2
  have c3 : w1.cell? ⟨P, 3, none⟩ = some (.int .i64 e.uid) := K1.out.cell 3
  have c4 : w1.cell? ⟨P, 4, none⟩ = some (.int .i64 e.gid) := K1.out.cell 4
  have c5 : w1.cell? ⟨P, 5, none⟩ = some (.int .i64 e.size) := K1.out.cell 5
  have c6 : w1.cell? ⟨P, 6, none⟩ = some (.int .i64 e.sec) := K1.out.cell 6
  have c7 : w1.cell? ⟨P, 7, none⟩ = some (.int .i64 e.nano) := K1.out.cell 7
  have c8 : w1.cell? ⟨P, 8, none⟩ = some (.string (bs e.link)) := K1.out.cell 8
  have c9 : w1.cell? ⟨P, 9, none⟩ = some (.string (bs e.user)) := K1.out.cell 9
  have c10 : w1.cell? ⟨P, 10, none⟩ = some (.string (bs e.group)) := K1.out.cell 10
  have c11 : w1.cell? ⟨P, 11, none⟩ = some (.int .i64 e.major) := K1.out.cell 11
  have c12 : w1.cell? ⟨P, 12, none⟩ = some (.int .i64 e.minor) := K1.out.cell 12
  have c13 : w1.cell? ⟨P, 13, none⟩ = some (.string (bs e.data)) := K1.out.cell 13
  have c14 : w1.cell? ⟨P, 14, none⟩ = some (.slice A0 mlen mcap) := K1.out.cell 14
  go_wp2_with fail
  refine (LA.out _ B1.out).mono ?_
  rintro r w2 ⟨rfl, h2⟩
  have B2 := Lib.hid (thenB B1.out h2)
  have K2 := Lib.hid (K1.out.below h2 K1.out.lt)
  clear h2 LA K1 B1 c0 c1 c2 c3 c4 c5 c6 c7 c8 c9 c10 c11 c12 c13 c14
  obtain ⟨le, hle⟩ : ∃ b, b = largeE e := ⟨_, rfl⟩
  rw [← hle]
  have HLE := Lib.hid hle
  clear hle
  cases le with
  | true => go_wp2_with fail; go_ret; exact ⟨rfl, FIN.out _ B2.out⟩
  | false =>
  by_cases h100 : N.length ≤ 100
  case neg =>
    have k : (100 : Int) < S.size := by omega
    clear h100 hsz
    go_wp2_with fail; go_ret; exact ⟨rfl, FIN.out _ B2.out⟩
  have k : ¬ (100 : Int) < S.size := by omega
  by_cases hne : N = []
  case pos =>
    have k2 : S.toList.isEmpty = true := by rw [HS.out, hne]; exact str_emp
    clear h100 hsz hne
    go_wp2_with fail; go_ret; exact ⟨rfl, FIN.out _ B2.out⟩
  have k2 : S.toList.isEmpty = false := by rw [HS.out]; exact str_ne hne
  have HNE := Lib.hid hne
  clear hne
  have c0 : w2.cell? ⟨P, 0, none⟩ = some (.string (bs e.name)) := K2.out.cell 0
  have c1 : w2.cell? ⟨P, 1, none⟩ = some (.int .u8 e.kind) := K2.out.cell 1
  have c2 : w2.cell? ⟨P, 2, none⟩ = some (.int .i64 e.mode) := K2.out.cell 2
  have c3 : w2.cell? ⟨P, 3, none⟩ = some (.int .i64 e.uid) := K2.out.cell 3
  have c4 : w2.cell? ⟨P, 4, none⟩ = some (.int .i64 e.gid) := K2.out.cell 4
  have c5 : w2.cell? ⟨P, 5, none⟩ = some (.int .i64 e.size) := K2.out.cell 5
  have c6 : w2.cell? ⟨P, 6, none⟩ = some (.int .i64 e.sec) := K2.out.cell 6
  have c7 : w2.cell? ⟨P, 7, none⟩ = some (.int .i64 e.nano) := K2.out.cell 7
  have c8 : w2.cell? ⟨P, 8, none⟩ = some (.string (bs e.link)) := K2.out.cell 8
  have c9 : w2.cell? ⟨P, 9, none⟩ = some (.string (bs e.user)) := K2.out.cell 9
  have c10 : w2.cell? ⟨P, 10, none⟩ = some (.string (bs e.group)) := K2.out.cell 10
  have c11 : w2.cell? ⟨P, 11, none⟩ = some (.int .i64 e.major) := K2.out.cell 11
  have c12 : w2.cell? ⟨P, 12, none⟩ = some (.int .i64 e.minor) := K2.out.cell 12
  have c13 : w2.cell? ⟨P, 13, none⟩ = some (.string (bs e.data)) := K2.out.cell 13
  have c14 : w2.cell? ⟨P, 14, none⟩ = some (.slice A0 mlen mcap) := K2.out.cell 14
  go_wp2_with fail
  refine (WT.out _ B2.out HLE.out.symm).mono ?_
  rintro r w3 ⟨h3, hw⟩
  have B3 := Lib.hid (thenB B2.out h3)
  have K3 := Lib.hid (K2.out.below h3 K2.out.lt)
  clear h3 WT K2 B2 c0 c1 c2 c3 c4 c5 c6 c7 c8 c9 c10 c11 c12 c13 c14
  rcases hw with ⟨m, hm, rfl⟩ | ⟨_, s, xx, rfl⟩
  case inr => go_wp2_with fail; go_ret; exact ⟨rfl, FIN.out _ B3.out⟩
  obtain ⟨hr, hm2⟩ := two_old hm
  obtain ⟨hm512, hml⟩ := mem_512 hm
  have HR := Lib.hid hr
  have HM := Lib.hid hm2
  have hTs : ((bs m).size : Int) = m.length := by rw [bs_size]
  have RDC := Lib.hid (fun (w' : World) (G : Nat) (hb : Below W.heap.size W w') (hB : Blk w' G 43 #[.string (bs kPath), .string (bs N), .string (bs kUser), .string (bs rootB)]) => over_read hB (EE.out.below hb) HR.out HM.out (by omega) h100 HNE.out)
  obtain ⟨T, hT⟩ : ∃ T, T = bs m := ⟨_, rfl⟩
  rw [← hT] at RDC hTs ⊢
  have HMP := Lib.hid (show e.map = [] from by
    obtain ⟨_, _, _, _, _, _, _, _, _, hmap, _, _⟩ := old_facts (s := m) (off := 0) [] hr hm2 ⟨by unfold fld; simp, by omega⟩
    exact hmap)
  clear hm hr hm2 hT hm512
  obtain ⟨w4, hw4⟩ : ∃ w4, w4 = w3.alloc (.cells #[.string ⟨#[112, 97, 116, 104]⟩, .string S, .string ⟨#[117, 110, 97, 109, 101]⟩, .string ⟨#[114, 111, 111, 116]⟩] 43) := ⟨_, rfl⟩
  have hb4 : Below w3.heap.size w3 w4 := by rw [hw4]; exact (Below.refl _ _).alloc (Nat.le_refl _) _
  have B4 := Lib.hid (thenB B3.out hb4)
  have K4 := Lib.hid (K3.out.below hb4 K3.out.lt)
  have G4 := Lib.hid (show Blk w4 w3.heap.size 43 #[.string (bs kPath), .string (bs N), .string (bs kUser), .string (bs rootB)] by rw [hw4, HS.out]; exact Blk.new w3 43 _)
  obtain ⟨G, hG⟩ : ∃ G, G = w3.heap.size := ⟨_, rfl⟩
  have HW4 := Lib.hid hw4
  have HG := Lib.hid hG
  rw [← hG] at G4
  clear hw4 hb4 hG K3 B3
  repeat' ((fail_if_success (with_reducible refine halt_at 9 ?_)); first | go_values | go_skip | go_guarded | go_step | go_upon | go_back | (simp only [Int.not_lt, Int.not_le] at *; go_simp) | (go_values <;> (try go_simp)) | (go_ite <;> go_prune <;> (try go_simp)) | (split <;> (first | (rename_i hx; exact (hx _ rfl).elim) | go_prune)))
  rw [← HW4.out, ← HG.out]
  clear HW4
  go_wp2_with fail
  refine (RDC.out _ _ B4.out G4.out).mono ?_
  rintro r w5 ⟨⟨eM, nv, hv, er, rfl, her, hgd⟩, h5⟩
  have HGD := Lib.hid hgd
  have HER := Lib.hid her
  have B5 := Lib.hid (thenB B4.out h5)
  have K5 := Lib.hid (K4.out.below h5 K4.out.lt)
  have G5 := Lib.hid (G4.out.below h5 G4.out.lt)
  clear hgd her h5 RDC K4 G4 B4
  unfold ev evc
  obtain ⟨w6, hw6⟩ : ∃ w6, w6 = w5.alloc (.cells #[.string (bs eM.name), .int .u8 eM.kind, .int .i64 eM.mode, .int .i64 eM.uid, .int .i64 eM.gid, .int .i64 eM.size, .int .i64 eM.sec, .int .i64 eM.nano, .string (bs eM.link), .string (bs eM.user), .string (bs eM.group), .int .i64 eM.major, .int .i64 eM.minor, .string (bs eM.data), .slice none 0 0] 26) := ⟨_, rfl⟩
  have hb6 : Below w5.heap.size w5 w6 := by rw [hw6]; exact (Below.refl _ _).alloc (Nat.le_refl _) _
  have B6 := Lib.hid (thenB B5.out hb6)
  have K6 := Lib.hid (K5.out.below hb6 K5.out.lt)
  have G6 := Lib.hid (G5.out.below hb6 G5.out.lt)
  have M6 := Lib.hid (show Blk w6 w5.heap.size 26 #[.string (bs eM.name), .int .u8 eM.kind, .int .i64 eM.mode, .int .i64 eM.uid, .int .i64 eM.gid, .int .i64 eM.size, .int .i64 eM.sec, .int .i64 eM.nano, .string (bs eM.link), .string (bs eM.user), .string (bs eM.group), .int .i64 eM.major, .int .i64 eM.minor, .string (bs eM.data), .slice none 0 0] by rw [hw6]; exact Blk.new w5 26 _)
  have HGD6 := Lib.hid (fun (h : goodO e N) => (⟨(HGD.out h).1, (HGD.out h).2.1, (HGD.out h).2.2.1, (HGD.out h).2.2.2.later hb6⟩ : eM = wantE e N ∧ nv = m.length ∧ er = .nilIface ∧ HasR w6 0 hv (overG N)))
  obtain ⟨Mb, hMb⟩ : ∃ Mb, Mb = w5.heap.size := ⟨_, rfl⟩
  have HW6 := Lib.hid hw6
  have HMb := Lib.hid hMb
  rw [← hMb] at M6
  clear hw6 hb6 hMb HGD K5 G5 B5
  have c0 : w6.cell? ⟨P, 0, none⟩ = some (.string (bs e.name)) := K6.out.cell 0
  have c1 : w6.cell? ⟨P, 1, none⟩ = some (.int .u8 e.kind) := K6.out.cell 1
  have c2 : w6.cell? ⟨P, 2, none⟩ = some (.int .i64 e.mode) := K6.out.cell 2
  have c3 : w6.cell? ⟨P, 3, none⟩ = some (.int .i64 e.uid) := K6.out.cell 3
  have c4 : w6.cell? ⟨P, 4, none⟩ = some (.int .i64 e.gid) := K6.out.cell 4
  have c5 : w6.cell? ⟨P, 5, none⟩ = some (.int .i64 e.size) := K6.out.cell 5
  have c6 : w6.cell? ⟨P, 6, none⟩ = some (.int .i64 e.sec) := K6.out.cell 6
  have c7 : w6.cell? ⟨P, 7, none⟩ = some (.int .i64 e.nano) := K6.out.cell 7
  have c8 : w6.cell? ⟨P, 8, none⟩ = some (.string (bs e.link)) := K6.out.cell 8
  have c9 : w6.cell? ⟨P, 9, none⟩ = some (.string (bs e.user)) := K6.out.cell 9
  have c10 : w6.cell? ⟨P, 10, none⟩ = some (.string (bs e.group)) := K6.out.cell 10
  have c11 : w6.cell? ⟨P, 11, none⟩ = some (.int .i64 e.major) := K6.out.cell 11
  have c12 : w6.cell? ⟨P, 12, none⟩ = some (.int .i64 e.minor) := K6.out.cell 12
  have c13 : w6.cell? ⟨P, 13, none⟩ = some (.string (bs e.data)) := K6.out.cell 13
  have c14 : w6.cell? ⟨P, 14, none⟩ = some (.slice A0 mlen mcap) := K6.out.cell 14
  have lP6 := K6.out.lt
  repeat' ((fail_if_success (with_reducible refine halt_at 10 ?_)); first | go_values | go_skip | go_guarded | go_step | go_upon | go_back | (simp only [Int.not_lt, Int.not_le] at *; go_simp) | (go_values <;> (try go_simp)) | (go_ite <;> go_prune <;> (try go_simp)) | (split <;> (first | (rename_i hx; exact (hx _ rfl).elim) | go_prune)))
  rw [← HW6.out, ← HMb.out]
  clear HW6
  obtain ⟨w7, hw7⟩ : ∃ w7, w7 = w6.alloc (.cells #[.string (bs e.name), .int .u8 e.kind, .int .i64 e.mode, .int .i64 e.uid, .int .i64 e.gid, .int .i64 e.size, .int .i64 e.sec, .int .i64 e.nano, .string (bs e.link), .string (bs e.user), .string (bs e.group), .int .i64 e.major, .int .i64 e.minor, .string (bs e.data), .slice A0 mlen mcap] 26) := ⟨_, rfl⟩
  have hb7 : Below w6.heap.size w6 w7 := by rw [hw7]; exact (Below.refl _ _).alloc (Nat.le_refl _) _
  have Q7 := Lib.hid (show Blk w7 w6.heap.size 26 #[.string (bs e.name), .int .u8 e.kind, .int .i64 e.mode, .int .i64 e.uid, .int .i64 e.gid, .int .i64 e.size, .int .i64 e.sec, .int .i64 e.nano, .string (bs e.link), .string (bs e.user), .string (bs e.group), .int .i64 e.major, .int .i64 e.minor, .string (bs e.data), .slice A0 mlen mcap] by rw [hw7]; exact Blk.new w6 26 _)
  have Y7 := Lib.hid hb7
  obtain ⟨Q, hQ⟩ : ∃ Q, Q = w6.heap.size := ⟨_, rfl⟩
  have HW7 := Lib.hid hw7
  have HQ := Lib.hid hQ
  rw [← hQ] at Q7
  clear hw7 hb7 hQ
  repeat' ((fail_if_success (with_reducible refine halt_at 11 ?_)); first | go_values | go_skip | go_guarded | go_step | go_upon | go_back | (simp only [Int.not_lt, Int.not_le] at *; go_simp) | (go_values <;> (try go_simp)) | (go_ite <;> go_prune <;> (try go_simp)) | (split <;> (first | (rename_i hx; exact (hx _ rfl).elim) | go_prune)))
  rw [← HW7.out, ← HQ.out]
  clear HW7 lP6 c0 c1 c2 c3 c4 c5 c6 c7 c8 c9 c10 c11 c12 c13 c14
  obtain ⟨w8, hw8⟩ : ∃ w8, w8 = (w7.setCell ⟨Q, 0, none⟩ (.string S)).setCell ⟨Q, 9, none⟩ (.string ⟨#[114, 111, 111, 116]⟩) := ⟨_, rfl⟩
  have hb8 : Below w6.heap.size w6 w8 := by rw [hw8]; exact (Y7.out.setCell (p := ⟨Q, 0, none⟩) (by show _ ≤ Q; rw [HQ.out]; exact Nat.le_refl _) _).setCell (p := ⟨Q, 9, none⟩) (by show _ ≤ Q; rw [HQ.out]; exact Nat.le_refl _) _
  have Q8 := Lib.hid (show Blk w8 Q 26 #[.string S, .int .u8 e.kind, .int .i64 e.mode, .int .i64 e.uid, .int .i64 e.gid, .int .i64 e.size, .int .i64 e.sec, .int .i64 e.nano, .string (bs e.link), .string ⟨#[114, 111, 111, 116]⟩, .string (bs e.group), .int .i64 e.major, .int .i64 e.minor, .string (bs e.data), .slice A0 mlen mcap] by rw [hw8]; exact (Q7.out.set_ 0 _).set_ 9 _)
  have Y8 := Lib.hid hb8
  have HW8 := Lib.hid hw8
  have c0 : w7.cell? ⟨Q, 0, none⟩ = some (.string (bs e.name)) := Q7.out.cell 0
  have f0 := Q7.out.frozen 0
  have c1 : w7.cell? ⟨Q, 1, none⟩ = some (.int .u8 e.kind) := Q7.out.cell 1
  have f1 := Q7.out.frozen 1
  have c2 : w7.cell? ⟨Q, 2, none⟩ = some (.int .i64 e.mode) := Q7.out.cell 2
  have f2 := Q7.out.frozen 2
  have c3 : w7.cell? ⟨Q, 3, none⟩ = some (.int .i64 e.uid) := Q7.out.cell 3
  have f3 := Q7.out.frozen 3
  have c4 : w7.cell? ⟨Q, 4, none⟩ = some (.int .i64 e.gid) := Q7.out.cell 4
  have f4 := Q7.out.frozen 4
  have c5 : w7.cell? ⟨Q, 5, none⟩ = some (.int .i64 e.size) := Q7.out.cell 5
  have f5 := Q7.out.frozen 5
  have c6 : w7.cell? ⟨Q, 6, none⟩ = some (.int .i64 e.sec) := Q7.out.cell 6
  have f6 := Q7.out.frozen 6
  have c7 : w7.cell? ⟨Q, 7, none⟩ = some (.int .i64 e.nano) := Q7.out.cell 7
  have f7 := Q7.out.frozen 7
  have c8 : w7.cell? ⟨Q, 8, none⟩ = some (.string (bs e.link)) := Q7.out.cell 8
  have f8 := Q7.out.frozen 8
  have c9 : w7.cell? ⟨Q, 9, none⟩ = some (.string (bs e.user)) := Q7.out.cell 9
  have f9 := Q7.out.frozen 9
  have c10 : w7.cell? ⟨Q, 10, none⟩ = some (.string (bs e.group)) := Q7.out.cell 10
  have f10 := Q7.out.frozen 10
  have c11 : w7.cell? ⟨Q, 11, none⟩ = some (.int .i64 e.major) := Q7.out.cell 11
  have f11 := Q7.out.frozen 11
  have c12 : w7.cell? ⟨Q, 12, none⟩ = some (.int .i64 e.minor) := Q7.out.cell 12
  have f12 := Q7.out.frozen 12
  have c13 : w7.cell? ⟨Q, 13, none⟩ = some (.string (bs e.data)) := Q7.out.cell 13
  have f13 := Q7.out.frozen 13
  have c14 : w7.cell? ⟨Q, 14, none⟩ = some (.slice A0 mlen mcap) := Q7.out.cell 14
  have f14 := Q7.out.frozen 14
  have lQ := Q7.out.lt
  repeat' ((fail_if_success (with_reducible refine halt_at 12 ?_)); first | go_values | go_skip | go_guarded | go_step | go_upon | go_back | (simp only [Int.not_lt, Int.not_le] at *; go_simp) | (go_values <;> (try go_simp)) | (go_ite <;> go_prune <;> (try go_simp)) | (split <;> (first | (rename_i hx; exact (hx _ rfl).elim) | go_prune)))
  rw [← HW8.out]
  clear hw8 hb8 HW8 Q7 Y7 lQ c0 c1 c2 c3 c4 c5 c6 c7 c8 c9 c10 c11 c12 c13 c14 f0 f1 f2 f3 f4 f5 f6 f7 f8 f9 f10 f11 f12 f13 f14
  obtain ⟨NW, hNW⟩ : ∃ NW, NW = (wantE e N).name := ⟨_, rfl⟩
  have HNW := Lib.hid hNW
  clear hNW
  have TR := Lib.hid (fun w => Tryz.strings_TrimRight_one S 47 (by decide) w (by omega))
  have htr : (⟨(Lib.trimRightB S.data.toList 47).toArray⟩ : ByteArray) = bs (trimS N) := by rw [HS.out, bs_list]; rfl
  rw [htr] at TR
  clear htr
  have K8 := Lib.hid (K6.out.below Y8.out K6.out.lt)
  have c1 : w8.cell? ⟨P, 1, none⟩ = some (.int .u8 e.kind) := K8.out.cell 1
  go_upto_if 50 with fail
  clear c1
  go_cut [11] (fun s11 wx => ∃ y, s11 = .pointer (some ⟨Q, 0, none⟩) ∧ y = wx ∧ Hid (Blk y Q 26 #[.string (bs NW), .int .u8 e.kind, .int .i64 e.mode, .int .i64 e.uid, .int .i64 e.gid, .int .i64 e.size, .int .i64 e.sec, .int .i64 e.nano, .string (bs e.link), .string ⟨#[114, 111, 111, 116]⟩, .string (bs e.group), .int .i64 e.major, .int .i64 e.minor, .string (bs e.data), .slice A0 mlen mcap]) ∧ Hid (Below w6.heap.size w6 y))
  case first =>
    have d0 : w8.cell? ⟨Q, 0, none⟩ = some (.string S) := Q8.out.cell 0
    by_cases h53 : e.kind = 53
    · have q : ((e.kind : Int) == 53) = true := by rw [h53]; rfl
      have hn : NW = trimS N := by rw [HNW.out]; unfold wantE; rw [if_pos h53]
      have HN := Lib.hid hn
      clear h53 hn d0
      go_wp2_with fail
      refine (TR.out _).mono ?_
      rintro r y ⟨rfl, hy⟩
      rw [hy]
      clear hy
      have QY := Q8
      have YY := Y8
      have d0 : w8.cell? ⟨Q, 0, none⟩ = some (.string S) := QY.out.cell 0
      have f0 := QY.out.frozen 0
      have lQ := QY.out.lt
      go_wp2_with fail
      go_meet
      refine ⟨_, rfl, rfl, ?_, Lib.hid (YY.out.setCell (p := ⟨Q, 0, none⟩) (by show _ ≤ Q; rw [HQ.out]; exact Nat.le_refl _) _)⟩
      rw [HN.out]
      exact Lib.hid (QY.out.set_ 0 _)
    · have q : ((e.kind : Int) == 53) = false := by rw [beq_eq_false_iff_ne]; omega
      have hn : NW = N := by rw [HNW.out]; unfold wantE; rw [if_neg h53]
      have HN := Lib.hid hn
      clear h53 hn d0
      go_wp2_with fail
      go_meet
      refine ⟨_, rfl, rfl, ?_, Y8⟩
      rw [HN.out, ← HS.out]
      exact Q8
  case rest =>
  obtain ⟨y, rfl, rfl, QY, YY⟩ := hcut
  have KY := Lib.hid (K6.out.below YY.out K6.out.lt)
  have MY := Lib.hid (M6.out.below YY.out M6.out.lt)
  have GY := Lib.hid (G6.out.below YY.out G6.out.lt)
  have BY := Lib.hid (thenB B6.out YY.out)
  have HGY := Lib.hid (fun (h : goodO e N) => (⟨(HGD6.out h).1, (HGD6.out h).2.1, (HGD6.out h).2.2.1, (HGD6.out h).2.2.2.later YY.out⟩ : eM = wantE e N ∧ nv = m.length ∧ er = .nilIface ∧ HasR y 0 hv (overG N)))
  clear K6 M6 G6 B6 HGD6 K8 Q8 Y8 TR YY
  obtain ⟨n1, n2, n3, n4⟩ := large_no HLE.out.symm
  have hNWl : NW.length ≤ 140737488351232 := by
    rw [HNW.out]; unfold wantE
    show (if e.kind = 53 then trimS N else N).length ≤ _
    have := trimS_le N
    split <;> omega
  have RIC := Lib.hid (show ∀ w', Below W.heap.size W w' → Calls Tryz.prog 21 #[.agg #[.string (bs NW), .int .u8 e.kind, .int .i64 e.mode, .int .i64 e.uid, .int .i64 e.gid, .int .i64 e.size, .int .i64 e.sec, .int .i64 e.nano, .string (bs e.link), .string ⟨#[114, 111, 111, 116]⟩, .string (bs e.group), .int .i64 e.major, .int .i64 e.minor, .string (bs e.data), .slice A0 mlen mcap]] w' fun r w'' => r = .returned (.bool (rightE (wantE e N))) ∧ Below w'.heap.size w' w'' from fun w' hb => by
    have h := memRight_any (wantE e N) (.slice A0 mlen mcap) w' (CE.out.below hb).pcs CE.out.kind CE.out.data (by show e.map.length ≤ _; omega) CE.out.size (by rw [← HNW.out]; exact hNWl)
    unfold ev evc at h
    rw [← HNW.out] at h
    exact h)
  obtain ⟨RW, hRW⟩ : ∃ b, b = rightE (wantE e N) := ⟨_, rfl⟩
  rw [← hRW] at RIC
  have HRW := Lib.hid hRW
  clear hRW
  have c0 : y.cell? ⟨Q, 0, none⟩ = some (.string (bs NW)) := QY.out.cell 0
  have c1 : y.cell? ⟨Q, 1, none⟩ = some (.int .u8 e.kind) := QY.out.cell 1
  have c2 : y.cell? ⟨Q, 2, none⟩ = some (.int .i64 e.mode) := QY.out.cell 2
  have c3 : y.cell? ⟨Q, 3, none⟩ = some (.int .i64 e.uid) := QY.out.cell 3
  have c4 : y.cell? ⟨Q, 4, none⟩ = some (.int .i64 e.gid) := QY.out.cell 4
  have c5 : y.cell? ⟨Q, 5, none⟩ = some (.int .i64 e.size) := QY.out.cell 5
  have c6 : y.cell? ⟨Q, 6, none⟩ = some (.int .i64 e.sec) := QY.out.cell 6
  have c7 : y.cell? ⟨Q, 7, none⟩ = some (.int .i64 e.nano) := QY.out.cell 7
  have c8 : y.cell? ⟨Q, 8, none⟩ = some (.string (bs e.link)) := QY.out.cell 8
  have c9 : y.cell? ⟨Q, 9, none⟩ = some (.string ⟨#[114, 111, 111, 116]⟩) := QY.out.cell 9
  have c10 : y.cell? ⟨Q, 10, none⟩ = some (.string (bs e.group)) := QY.out.cell 10
  have c11 : y.cell? ⟨Q, 11, none⟩ = some (.int .i64 e.major) := QY.out.cell 11
  have c12 : y.cell? ⟨Q, 12, none⟩ = some (.int .i64 e.minor) := QY.out.cell 12
  have c13 : y.cell? ⟨Q, 13, none⟩ = some (.string (bs e.data)) := QY.out.cell 13
  have c14 : y.cell? ⟨Q, 14, none⟩ = some (.slice A0 mlen mcap) := QY.out.cell 14
  go_wp2_with fail
  refine (RIC.out _ BY.out).mono ?_
  rintro r y1 ⟨rfl, h1⟩
  have BY1 := Lib.hid (thenB BY.out h1)
  have KY1 := Lib.hid (KY.out.below h1 KY.out.lt)
  have MY1 := Lib.hid (MY.out.below h1 MY.out.lt)
  have GY1 := Lib.hid (GY.out.below h1 GY.out.lt)
  have QY1 := Lib.hid (QY.out.below h1 QY.out.lt)
  have HGY1 := Lib.hid (fun (h : goodO e N) => (⟨(HGY.out h).1, (HGY.out h).2.1, (HGY.out h).2.2.1, (HGY.out h).2.2.2.later h1⟩ : eM = wantE e N ∧ nv = m.length ∧ er = .nilIface ∧ HasR y1 0 hv (overG N)))
  clear h1 RIC KY MY GY QY HGY BY c0 c1 c2 c3 c4 c5 c6 c7 c8 c9 c10 c11 c12 c13 c14
  have c1 : y1.cell? ⟨P, 1, none⟩ = some (.int .u8 e.kind) := KY1.out.cell 1
  cases RW with
  | false => go_wp2_with fail; go_ret; exact ⟨rfl, FIN.out _ BY1.out⟩
  | true =>
  have SUF := Lib.hid (fun w => Tryz.strings_HasSuffix S ⟨#[47]⟩ w (by omega))
  have hsf : Lib.hasSuffix S.data.toList (⟨#[47]⟩ : ByteArray).data.toList = (N.getLast? == some 47) := by rw [HS.out, bs_list]; exact slash_end2 N
  rw [hsf] at SUF
  clear hsf
  obtain ⟨SF, hSF⟩ : ∃ b, b = (N.getLast? == some 47) := ⟨_, rfl⟩
  rw [← hSF] at SUF
  have HSF := Lib.hid hSF
  clear hSF
  have TAIL : Hid (∀ y2, Below y1.heap.size y1 y2 → (e.kind = 48 → SF = false) → (eM = wantE e N ∧ nv = m.length ∧ er = .nilIface ∧ HasR y2 0 hv (overG N))) := Lib.hid (fun y2 hb hsf => by
    have hg : goodO e N := ⟨HRW.out.symm, fun h48 hl => by
      have h1 := hsf h48
      rw [HSF.out, hl] at h1
      exact absurd h1 (by decide)⟩
    obtain ⟨a, b, c, d⟩ := HGY1.out hg
    exact ⟨a, b, c, d.later hb⟩)
  clear HGY1
  by_cases h48 : e.kind = 48
  · have q : ((e.kind : Int) == 48) = true := by rw [h48]; rfl
    clear h48
    go_wp2_with fail
    refine (SUF.out _).mono ?_
    rintro r y2 ⟨rfl, hy⟩
    rw [hy]
    clear hy SUF
    cases SF with
    | true => go_wp2_with fail; go_ret; exact ⟨rfl, FIN.out _ BY1.out⟩
    | false =>
    obtain ⟨te, tn, tr, th⟩ := TAIL.out y1 (Below.refl _ _) (fun _ => rfl)
    subst tn tr
    have TE := Lib.hid te
    have EQ := Lib.hid (eq_same th (pairs_two GY1.out) (by unfold overG; simp))
    have SAM := Lib.hid (show ∀ w', Below y1.heap.size y1 w' → Calls Tryz.prog 19 #[.agg #[.string (bs eM.name), .int .u8 eM.kind, .int .i64 eM.mode, .int .i64 eM.uid, .int .i64 eM.gid, .int .i64 eM.size, .int .i64 eM.sec, .int .i64 eM.nano, .string (bs eM.link), .string (bs eM.user), .string (bs eM.group), .int .i64 eM.major, .int .i64 eM.minor, .string (bs eM.data), .slice none 0 0], .agg #[.string (bs NW), .int .u8 e.kind, .int .i64 e.mode, .int .i64 e.uid, .int .i64 e.gid, .int .i64 e.size, .int .i64 e.sec, .int .i64 e.nano, .string (bs e.link), .string ⟨#[114, 111, 111, 116]⟩, .string (bs e.group), .int .i64 e.major, .int .i64 e.minor, .string (bs e.data), .slice A0 mlen mcap]] w' fun r w'' => r = .returned (.bool true) ∧ Below w'.heap.size w' w'' from fun w' hb => by
      have hem : eM.map = [] := by rw [TE.out]; exact HMP.out
      have h := sameF_any eM (wantE e N) (.slice none 0 0) (.slice A0 mlen mcap) w' (by rw [hem]; exact pcs_none0 w') (CE.out.below (thenB BY1.out hb)).pcs (by rw [hem]; simp) (by show e.map.length ≤ _; omega)
      rw [decide_eq_true TE.out] at h
      unfold ev evc at h
      rw [← HNW.out] at h
      exact h)
    clear te th TAIL
    repeat' ((fail_if_success (with_reducible refine halt_at 16 ?_)); first | go_values | go_skip | go_guarded | go_step | go_upon | go_back | (simp only [Int.not_lt, Int.not_le] at *; go_simp) | (go_values <;> (try go_simp)) | (go_ite <;> go_prune <;> (try go_simp)) | (split <;> (first | (rename_i hx; exact (hx _ rfl).elim) | go_prune)))
    refine mo_r16 hTs MY1 QY1 EQ SAM (by kernel_rfl) (fun X v66 v67 v68 v69 v70 v71 v72 v73 v74 v75 v76 v77 v78 v79 v80 v81 v82 v83 hX => ?_)
    have BX := Lib.hid (thenB BY1.out hX)
    go_wp2_with fail; go_ret; exact ⟨rfl, FIN.out _ BX.out⟩
  · have q : ((e.kind : Int) == 48) = false := by rw [beq_eq_false_iff_ne]; omega
    have H48 := Lib.hid h48
    clear h48
    obtain ⟨te, tn, tr, th⟩ := TAIL.out y1 (Below.refl _ _) (fun h => absurd h H48.out)
    subst tn tr
    have TE := Lib.hid te
    have EQ := Lib.hid (eq_same th (pairs_two GY1.out) (by unfold overG; simp))
    have SAM := Lib.hid (show ∀ w', Below y1.heap.size y1 w' → Calls Tryz.prog 19 #[.agg #[.string (bs eM.name), .int .u8 eM.kind, .int .i64 eM.mode, .int .i64 eM.uid, .int .i64 eM.gid, .int .i64 eM.size, .int .i64 eM.sec, .int .i64 eM.nano, .string (bs eM.link), .string (bs eM.user), .string (bs eM.group), .int .i64 eM.major, .int .i64 eM.minor, .string (bs eM.data), .slice none 0 0], .agg #[.string (bs NW), .int .u8 e.kind, .int .i64 e.mode, .int .i64 e.uid, .int .i64 e.gid, .int .i64 e.size, .int .i64 e.sec, .int .i64 e.nano, .string (bs e.link), .string ⟨#[114, 111, 111, 116]⟩, .string (bs e.group), .int .i64 e.major, .int .i64 e.minor, .string (bs e.data), .slice A0 mlen mcap]] w' fun r w'' => r = .returned (.bool true) ∧ Below w'.heap.size w' w'' from fun w' hb => by
      have hem : eM.map = [] := by rw [TE.out]; exact HMP.out
      have h := sameF_any eM (wantE e N) (.slice none 0 0) (.slice A0 mlen mcap) w' (by rw [hem]; exact pcs_none0 w') (CE.out.below (thenB BY1.out hb)).pcs (by rw [hem]; simp) (by show e.map.length ≤ _; omega)
      rw [decide_eq_true TE.out] at h
      unfold ev evc at h
      rw [← HNW.out] at h
      exact h)
    clear te th TAIL
    repeat' ((fail_if_success (with_reducible refine halt_at 16 ?_)); first | go_values | go_skip | go_guarded | go_step | go_upon | go_back | (simp only [Int.not_lt, Int.not_le] at *; go_simp) | (go_values <;> (try go_simp)) | (go_ite <;> go_prune <;> (try go_simp)) | (split <;> (first | (rename_i hx; exact (hx _ rfl).elim) | go_prune)))
    refine mo_r16 hTs MY1 QY1 EQ SAM (by kernel_rfl) (fun X v66 v67 v68 v69 v70 v71 v72 v73 v74 v75 v76 v77 v78 v79 v80 v81 v82 v83 hX => ?_)
    have BX := Lib.hid (thenB BY1.out hX)
    go_wp2_with fail; go_ret; exact ⟨rfl, FIN.out _ BX.out⟩

set_option maxRecDepth 100000 in
theorem memberOver_walk {H : Type} {enc : TypeId × Value → H} {w : World} {d1 : DataW H} {p1 : List MemPlace} {base : Nat} (v : Value) (hok1 : Value.okWide Tryz.prog w .any base 26 v)
    (h1 : DataW.Trod enc Tryz.prog w 0 (fun _ => true) true 26 v d1 p1) (hz1 : ∀ n ∈ d1.weights Tryz.prog 26, n ≤ reachBytes) (nm : ByteArray) (hnm : nm.size ≤ 140737488351232) (hE : EnvM w) :
    Calls Tryz.prog 8 #[v, .string nm] w fun e w' => e = .returned (.bool true) ∧ Below w.heap.size w w' := by
  obtain ⟨e, mv, rfl, he⟩ := ent_open hok1 h1 hz1
  have hn : nm = bs nm.data.toList := ba_ext (by rw [bs_list])
  rw [hn]
  exact memberOver_main e mv _ w he hE (by rw [list_size]; exact hnm)

end Go.Proofs.YtkhkjacnoiopcaaGreatDoor

set_option linter.unusedVariables false
set_option linter.unusedSimpArgs false
namespace Go.Proofs.YtkhkjacnoiopcaaGreatDoor
open Go.RowKit

theorem iface_of_vars {P : Program} {W : World} {name : String} {d : DataW Unit} {rest : List (String × DataW Unit)} {ps : List MemPlace} {g : Nat} {t : TypeId} {ms : Array (String × TypeId)}
    (hg : P.globalNamed name = some g) (hty : (P.globals[g]?).map (·.type) = some t) (ht : P.underlying t = some (.interface ms))
    (h : DataW.LaidVars P W ((name, d) :: rest) ps) : ∃ ev, W.cell? ⟨g, 0, none⟩ = some ev ∧ (ev = .nilIface ∨ ∃ te pe, ev = .iface te pe) := by
  obtain ⟨g', t', cs, fuel, p, q, hg', ht', hvar, hd, _, _⟩ := h
  obtain rfl := Option.some.inj (hg.symm.trans hg')
  obtain rfl := Option.some.inj (hty.symm.trans ht')
  have hc := World.var?_cell hg hvar 0
  cases fuel with
  | zero => cases hd
  | succ fuel =>
    obtain ⟨l⟩ := cs
    unfold DataW.trod at hd
    rw [ht] at hd
    cases l with
    | nil => cases hd
    | cons v l =>
      cases l with
      | cons v2 l => cases v <;> cases hd
      | nil =>
        refine ⟨v, by simpa using hc, ?_⟩
        cases v <;> first | (exact .inl rfl) | (exact .inr ⟨_, _, rfl⟩) | (cases hd)

theorem env_of {l : List (String × DataW Unit)} {W : World} (h : laidMetH Tryz.prog l W)
    (hl : (l.filter fun x => x.1 == "internal/strconv.uint64pow10" || x.1 == "strconv.ErrSyntax") = [("internal/strconv.uint64pow10", Lib.tabData .u64 Lib.pow10Tab), ("strconv.ErrSyntax", Rows.laid_strconv_ErrSyntax)] ∧ (l.filter fun x => x.1 == "errors.errorType") = [("errors.errorType", Rows.laid_errors_errorType)]) (hs : W.ShapedOpen Tryz.prog) : EnvM W := by
  have h1 := h.filter fun x => x.1 == "internal/strconv.uint64pow10" || x.1 == "strconv.ErrSyntax"
  rw [hl.1, MakeChecks.laidMetH_plain _ _ _ (by kernel_rfl)] at h1
  have h2 : ∃ ps, DataW.LaidVars Tryz.prog W [("strconv.ErrSyntax", Rows.laid_strconv_ErrSyntax)] ps := by
    obtain ⟨ps, ⟨_, _, _, _, _, q, _, _, _, _, hr, _⟩, _⟩ := h1
    exact ⟨q, hr⟩
  obtain ⟨ps, h3⟩ := h2
  have hm : ("errors.errorType", Rows.laid_errors_errorType) ∈ l.filter fun x => x.1 == "errors.errorType" := by rw [hl.2]; simp
  exact ⟨⟨Tryz.laysM219.s1_3 W hs, iface_of_vars (g := 5) (t := 31) (by kernel_rfl) (by kernel_rfl) Tryz.underlying31 h3, Lib.tabIs_of_head pxpow_no (t := 283) (e := 222) (n := 20) (by kernel_rfl) (by kernel_rfl) (by kernel_rfl) (by kernel_rfl) (by kernel_rfl) h1⟩, errT_of_laid h (List.mem_filter.1 hm).1⟩

end Go.Proofs.YtkhkjacnoiopcaaGreatDoor

namespace Go.Proofs.YtkhkjacnoiopcaaGreatDoor.memberOver
open Go.ChangeShapes Go.WideShapes Go.ChangeAt Go.RowKit
open Go.ChangeMaps (open_string shut_string)
set_option linter.unusedVariables false

theorem lo : laidOutB Tryz.prog = true := by kernel_rfl
theorem own : ownKnob Tryz.prog.godebug = none := by kernel_rfl

def plainLaid : List (String × DataW Unit) := Rows.memberOverRow.laid.filter fun x => x.2.handleName?.isNone
/-- a world for the witness: errors.errorType by hand, all else that is listed by layVars -/
noncomputable def world0 (os : Os) : World := { World.holding Tryz.prog os ⟨#[], #[], []⟩ with heap := ((World.holding Tryz.prog os ⟨#[], #[], []⟩).heap.modify 0 fun | .cells _ t f => .cells #[.iface 228 (.agg #[.pointer (some ⟨9, 31, none⟩)])] t f | o => o) }
noncomputable def laidWorld (os : Os) : World := (world0 os).layVars Tryz.prog plainLaid
theorem laidMet_lay {P : Program} {w0 : World} {laid : List (String × DataW Unit)} (args : Array Value) (hf : w0.layFits P laid [] = true) (hi : w0.layIfaces P laid (w0.layVars P laid) = true) :
    laidMet P laid ((w0.layVars P laid).forCall (fun _ _ => 0) ⟨#[], args, []⟩).memory := by
  have e1 : (laid.filter fun x => (laid.map (·.1)).contains x.1) = laid := List.filter_eq_self.2 fun x hx => List.contains_iff_mem.2 (List.mem_map.2 ⟨x, hx, rfl⟩)
  have e2 : (laid.filter fun x => !(laid.map (·.1)).contains x.1) = [] := List.filter_eq_nil_iff.2 fun x hx => by rw [List.contains_iff_mem.2 (List.mem_map.2 ⟨x, hx, rfl⟩)]; simp
  have h : laidMet P laid (w0.layVars P laid) := laidMet_layVars (w0 := w0) (laid.map (·.1)) [] (by rw [e1]) (by rw [e1]; exact hf) (by rw [e1]; exact hi) (by rw [e2]; exact LaidIn.none)
  exact h.of_heap (by simp [World.memory, World.forCall, Input.heap])
theorem door_met (os : Os) (args : Array Value) : laidMetH Tryz.prog Rows.memberOverRow.laid ((laidWorld os).forCall (fun _ _ => 0) ⟨#[], args, []⟩).memory :=
  laidMetH_of_parts3 (fuel := 8) (laidMet_lay args (by kernel_rfl) (by kernel_rfl)) (by kernel_rfl) (by kernel_rfl)

set_option maxRecDepth 100000 in
theorem lifted (os : Os) (started : os.Started) (H : Type) (enc : TypeId × Value → H) :
    ReturnsInHanded {} Tryz.checked os 8 .any (fun w args => (Rows.memberOverSpec.pre enc Tryz.prog Tryz.f8 Rows.memberOverRow.domain false w args ∧ laidMetH Tryz.prog Rows.memberOverRow.laid w) ∧ sizedMet enc Tryz.prog Tryz.f8 (OpenSpec.ofChange Rows.memberOverSpec) false w args)
      (Rows.memberOverSpec.post enc Tryz.prog Tryz.f8 false true false false) := by
  refine and_shaped (C := Tryz.checked) (X := fun w _ => laidMetH Tryz.prog Rows.memberOverRow.laid w) (fun _ _ _ hh h => h.of_heap hh) own started (by kernel_rfl) Tryz.func8
    (ChangeSpec.witness_shaped (enc := enc) (C := Tryz.checked) (os := os) (X := fun w _ => laidMetH Tryz.prog Rows.memberOverRow.laid w) false (laidWorld os) #[.agg #[.string ByteArray.empty, .int .u8 0, .int .i64 0, .int .i64 0, .int .i64 0, .int .i64 0, .int .i64 0, .int .i64 0, .string ByteArray.empty, .string ByteArray.empty, .string ByteArray.empty, .int .i64 0, .int .i64 0, .string ByteArray.empty, .slice none 0 0], .string ByteArray.empty] 8 ((World.layVars_os _ _ _).trans rfl) (World.shaped_of_ZipB (by kernel_rfl) (by kernel_rfl)) (by kernel_rfl) (by kernel_rfl) (by kernel_rfl) (door_met os _)) ?_
  intro W base args ds gs before hval0 hW hcnd hsz0 hL hsh _
  have hval : ∀ (j : Nat) t v, Tryz.f8.params[j]? = some t → args[j]? = some v → Value.okWide Tryz.prog W .any base t v := hval0
  have hW' := hW
  obtain ⟨p, q, hA0, hV, rfl, hfz, hnd⟩ := hW
  have hA : DataW.TrodAll enc Tryz.prog W 0 (fun _ => true) true Tryz.f8.params.toList args.toList ds p := hA0
  have hsz : (DataW.weightsEach Tryz.prog (Tryz.f8.params.toList ++ Rows.memberOverSpec.plain.varTypes Tryz.prog) (ds ++ gs)).all (· ≤ reachBytes) = true := hsz0
  rw [Tryz.params8] at hA hval hsz
  obtain ⟨v0, vs0, d0, ds0, p0, q0, hargs, rfl, rfl, h0, r0⟩ := trodAll_cons hA
  obtain ⟨v1, vs1, d1, ds1, p1, q1, rfl, rfl, rfl, h1, r1⟩ := trodAll_cons r0
  obtain ⟨rfl, rfl, rfl⟩ := trodAll_nil r1
  obtain rfl : args = #[v0, v1] := by cases args; simp_all
  obtain ⟨rfl, rfl⟩ := trodVars_none hV
  have k0 := hval 0 26 v0 rfl rfl
  obtain ⟨a1, rfl, rfl, rfl, w1⟩ := open_string Tryz.underlying9 (hval 1 9 v1 rfl rfl) h1
  have z0 : ∀ n ∈ d0.weights Tryz.prog 26, n ≤ reachBytes := fun n hn => by have := List.all_eq_true.1 hsz n (DataW.weights_mem_each (j := 0) (t := 26) rfl rfl n hn); simpa using this
  have s1 : a1.size ≤ 140737488351232 := by have := sized_string hsz (j := 1) (t := 9) rfl rfl; simpa [reachBytes] using this
  clear hA0 hval0 hsz0
  refine (memberOver_walk v0 k0 h0 z0 a1 s1 (env_of hL ⟨by kernel_rfl, by kernel_rfl⟩ hsh)).mono fun e W' ⟨he, bel⟩ => ?_
  subst he
  exact ⟨_, rfl, _, _, _, [], _, [], hW', trodAll_mk1 (shut_bool Tryz.underlying4 _), (trodAll_cons_mk (Below.trod lo (by kernel_rfl) (of_decide_eq_true (by kernel_rfl)) h0 bel (fun x hx => by obtain ⟨_, hh⟩ := h0; exact DataW.trod_lt _ _ _ _ hh x hx)) (trodAll_cons_mk (shut_string Tryz.underlying9 w1) trodAll_mk0)), rfl, bel.frame _, fun h => by cases h⟩

theorem said : Rows.MemberOverSaid :=
  OpenClaim.holds_of_wide 8 Tryz.f8 rfl rfl rfl rfl rfl rfl rfl ⟨rfl, rfl, rfl, rfl, rfl⟩ rfl rfl rfl rfl rfl (by kernel_rfl) Tryz.func8 closed
    (of_decide_eq_true (by kernel_rfl)) (by unfold Func.isWrapper; first | (rw [if_pos (by decide +kernel)]; kernel_rfl) | (rw [if_neg (by decide +kernel)]; exact ⟨rfl, rfl⟩))
    (fun os started H enc _ => lifted os started H enc)

theorem plain (f : FuncId) (fn : Func) (hf : Tryz.pinned.checked.prog.funcNamed "revetment/revetmentkeep.MemberOver" = some f) (hfn : Tryz.pinned.checked.prog.funcs[f]? = some fn) :
    true = Tryz.pinned.checked.prog.looks [] ∧ ∀ (j : Nat) t, fn.params[j]? = some t → Tryz.pinned.checked.prog.wantsStandIn t = false := by
  obtain rfl : f = 8 := Option.some.inj ((show Tryz.prog.funcNamed "revetment/revetmentkeep.MemberOver" = some 8 by kernel_rfl).symm.trans hf) |>.symm
  obtain rfl : fn = Tryz.f8 := (Option.some.inj (Tryz.func8.symm.trans hfn)).symm
  refine ⟨by kernel_rfl, fun j t ht => ?_⟩
  rw [Tryz.params8] at ht
  have hm : t ∈ [26, 9] := by simpa using Array.mem_of_getElem? ht
  have hall : ([26, 9].all fun u => !Tryz.prog.wantsStandIn u) = true := by kernel_rfl
  have hm' : t ∈ [26, 9] := hm
  exact (show Tryz.prog.wantsStandIn t = false by simpa using List.all_eq_true.1 hall t hm')

theorem card : Rows.MemberOverCardSaid :=
  Claim7.holds_tied_plain_at .later [] _ _ _ _ said (fun _ h => by cases h) (by kernel_rfl) (fun _ h => by cases h) memberOver_row_tie rfl ⟨rfl, rfl⟩ (by kernel_rfl) rfl plain (by kernel_rfl)
#print axioms card
end Go.Proofs.YtkhkjacnoiopcaaGreatDoor.memberOver
