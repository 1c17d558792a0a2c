/-
  (*reader).member: three of its regions that draw their order, each by itself.
-/
import Derived.Test.YtkhkjacnoiopcaaGreatDoorZas
import Derived.Test.YtkhkjacnoiopcaaGreatDoorZay
import Derived.Test.YtkhkjacnoiopcaaGreatDoorZba
import Derived.Test.YtkhkjacnoiopcaaGreatDoorZbb
import Derived.Test.YtkhkjacnoiopcaaGreatDoorZbc
import Derived.Test.YtkhkjacnoiopcaaGreatDoorZbd
import Derived.Deep.RegionHeld3
import Derived.Deep.RegionWith
set_option linter.unusedVariables false
set_option linter.unusedSimpArgs false

set_option linter.unusedVariables false
set_option linter.unusedSimpArgs false
namespace Go.Proofs.YtkhkjacnoiopcaaGreatDoor
open Go.RowKit Tre Pk

/-- A region's operations, by its number. -/
def findOps (n : Nat) : Code → Option (Array Oper)
  | .region id ops _ => bif id == n then some ops else none
  | .seq a b => (findOps n a).or (findOps n b)
  | .cond _ a b => (findOps n a).or (findOps n b)
  | .block _ a => findOps n a
  | .loop a => findOps n a
  | .scope a => findOps n a
  | _ => none
def opsAt (f : Func) (n : Nat) : Option (Array Oper) := f.body.bind (findOps n)

theorem full_is (r : HRaw) (h1 : r.name.length ≤ 1000000) (h2 : r.front.length ≤ 1000000) (w : World) : Calls Tryz.prog 89 #[rv r] w fun e w' => e = .returned (.string (bs (fullR r))) ∧ Below w.heap.size w w' := by
  obtain ⟨n, l, u, g, f, k, m1, m2, m3, m4, m5, m6, m7⟩ := r
  refine full_any (bs n) (bs l) (bs u) (bs g) (bs f) k.toNat m1 m2 m3 m4 m5 m6 m7 w (by rw [bs_size]; exact h1) (by rw [bs_size]; exact h2) _ ?_
  unfold fullR
  simp only
  have ht : ∀ x : List UInt8, (bs x).toList = x := fun x => Lib.toList_data _
  rw [ht]
  by_cases hf : f = []
  · rw [if_pos hf]; exact .inl ⟨hf, rfl⟩
  · rw [if_neg hf]
    refine .inr ⟨hf, ba_ext ?_⟩
    rw [cat_list, cat_list, bs_list, bs_list, bs_list]
    simp
theorem HasR.off {w : World} {B E : Nat} {v : Value} {l : List Px.Rec} (h : HasR w B v l) (hE : E < B) : offE E v := by
  rcases h.ways with ⟨rfl, _⟩ | ⟨g, cap, rfl, hg, _⟩
  · exact offE_nil E 0 0
  · intro b o n c e
    injection e with e1 _ _
    have e2 := Option.some.inj e1
    injection e2 with e3 _ _
    omega
set_option maxRecDepth 100000 in
set_option maxHeartbeats 8000000 in
theorem mb_r1 {W1 : World} {P : Nat} {a0 a1 a2 a3 a4 : Bl} {a5 : UInt8} {a6 a7 a8 a9 a10 a11 a12 : Int} {FN : Bl} (KP : Hid (Blk W1 P 72 #[.string (bs a0), .string (bs a1), .string (bs a2), .string (bs a3), .string (bs a4), .int .u8 a5.toNat, .int .i64 a6, .int .i64 a7, .int .i64 a8, .int .i64 a9, .int .i64 a10, .int .i64 a11, .int .i64 a12]))
    (FUC : Hid (∀ w, Calls Tryz.prog 89 #[.agg #[.string (bs a0), .string (bs a1), .string (bs a2), .string (bs a3), .string (bs a4), .int .u8 a5.toNat, .int .i64 a6, .int .i64 a7, .int .i64 a8, .int .i64 a9, .int .i64 a10, .int .i64 a11, .int .i64 a12]] w fun e w' => e = .returned (.string (bs FN)) ∧ Below w.heap.size w w'))
    {ops : Array Oper} (hops : opsAt Tryz.f46 1 = some ops) {Q : Exit → Act → World → Prop} (hQp : ∀ x a (t : Tmp) v w, Q (.panic x) (a.put (some t) v) w → Q (.panic x) a w) {u0 u1 u2 u4 u5 u6 u7 u8 u9 u10 u11 u12 u13 u14 u15 u16 u17 u18 u19 u20 u21 u22 u23 u24 u25 u26 u27 u28 u29 u30 u31 u32 u33 u34 u35 u36 u37 u38 u39 u40 u41 u42 u43 u44 u45 u46 u47 u48 u49 u50 u51 u52 u53 u54 u55 u56 u57 u58 u59 u60 u61 u62 u63 u64 u65 u66 u67 u68 u69 u70 u71 u72 u73 u74 u75 u76 u77 u78 u79 u80 u81 u82 u83 u84 u85 u86 u87 u88 u89 u90 u91 u92 u93 u94 u95 u96 u97 u98 u99 u100 u101 u102 u103 u104 u105 u106 u107 u108 u109 u110 u111 u112 u113 u114 u115 u116 u117 u118 u119 u120 u121 u122 u123 u124 u125 u126 u127 u128 u129 u130 u131 u132 u133 u134 u135 u136 u137 u138 u139 u140 u141 u142 u143 u144 u145 u146 u147 u148 u149 u150 u151 u152 u153 u154 u155 u156 : Value}
    (hQ : ∀ (E : Nat) (x : World) (v18 v19 v20 v21 v22 v23 v24 v25 v26 v27 v28 v29 v30 v31 v32 v33 v34 v35 v36 v37 v38 v39 v40 v41 v42 v43 : Value), W1.heap.size ≤ E → Blk x E 26 #[.string (bs FN), .int .u8 a5.toNat, .int .i64 a6, .int .i64 a7, .int .i64 a8, .int .i64 a9, .int .i64 a10, .int .i64 0, .string (bs a1), .string (bs a2), .string (bs a3), .int .i64 a11, .int .i64 a12, .string ⟨#[]⟩, .slice none 0 0] → Below W1.heap.size W1 x → Q .normal ⟨#[u0, u1, u2, .pointer (some ⟨P, 0, none⟩), u4, u5, u6, .pointer (some ⟨E, 0, none⟩), u8, u9, u10, u11, u12, u13, u14, u15, u16, u17, v18, v19, v20, v21, v22, v23, v24, v25, v26, v27, v28, v29, v30, v31, v32, v33, v34, v35, v36, v37, v38, v39, v40, v41, v42, v43, u44, u45, u46, u47, u48, u49, u50, u51, u52, u53, u54, u55, u56, u57, u58, u59, u60, u61, u62, u63, u64, u65, u66, u67, u68, u69, u70, u71, u72, u73, u74, u75, u76, u77, u78, u79, u80, u81, u82, u83, u84, u85, u86, u87, u88, u89, u90, u91, u92, u93, u94, u95, u96, u97, u98, u99, u100, u101, u102, u103, u104, u105, u106, u107, u108, u109, u110, u111, u112, u113, u114, u115, u116, u117, u118, u119, u120, u121, u122, u123, u124, u125, u126, u127, u128, u129, u130, u131, u132, u133, u134, u135, u136, u137, u138, u139, u140, u141, u142, u143, u144, u145, u146, u147, u148, u149, u150, u151, u152, u153, u154, u155, u156], []⟩ x) :
    Code.wp Tryz.prog (.region 1 ops true) Q ⟨#[u0, u1, u2, .pointer (some ⟨P, 0, none⟩), u4, u5, u6, u7, u8, u9, u10, u11, u12, u13, u14, u15, u16, u17, u18, u19, u20, u21, u22, u23, u24, u25, u26, u27, u28, u29, u30, u31, u32, u33, u34, u35, u36, u37, u38, u39, u40, u41, u42, u43, u44, u45, u46, u47, u48, u49, u50, u51, u52, u53, u54, u55, u56, u57, u58, u59, u60, u61, u62, u63, u64, u65, u66, u67, u68, u69, u70, u71, u72, u73, u74, u75, u76, u77, u78, u79, u80, u81, u82, u83, u84, u85, u86, u87, u88, u89, u90, u91, u92, u93, u94, u95, u96, u97, u98, u99, u100, u101, u102, u103, u104, u105, u106, u107, u108, u109, u110, u111, u112, u113, u114, u115, u116, u117, u118, u119, u120, u121, u122, u123, u124, u125, u126, u127, u128, u129, u130, u131, u132, u133, u134, u135, u136, u137, u138, u139, u140, u141, u142, u143, u144, u145, u146, u147, u148, u149, u150, u151, u152, u153, u154, u155, u156], []⟩ W1 := by
  unfold opsAt Tryz.f46 at hops
  injection hops with hops
  subst hops
  have bw := Below.refl W1.heap.size W1
  have ltP := KP.out.lt
  have KC := Lib.hid (fun w' (hb : Below W1.heap.size W1 w') => (show w'.cell? ⟨P, 0, none⟩ = some (.string (bs a0)) ∧ w'.cell? ⟨P, 1, none⟩ = some (.string (bs a1)) ∧ w'.cell? ⟨P, 2, none⟩ = some (.string (bs a2)) ∧ w'.cell? ⟨P, 3, none⟩ = some (.string (bs a3)) ∧ w'.cell? ⟨P, 4, none⟩ = some (.string (bs a4)) ∧ w'.cell? ⟨P, 5, none⟩ = some (.int .u8 a5.toNat) ∧ w'.cell? ⟨P, 6, none⟩ = some (.int .i64 a6) ∧ w'.cell? ⟨P, 7, none⟩ = some (.int .i64 a7) ∧ w'.cell? ⟨P, 8, none⟩ = some (.int .i64 a8) ∧ w'.cell? ⟨P, 9, none⟩ = some (.int .i64 a9) ∧ w'.cell? ⟨P, 10, none⟩ = some (.int .i64 a10) ∧ w'.cell? ⟨P, 11, none⟩ = some (.int .i64 a11) ∧ w'.cell? ⟨P, 12, none⟩ = some (.int .i64 a12) ∧ Below W1.heap.size W1 w' from ⟨(KP.out.below hb ltP).cell 0, (KP.out.below hb ltP).cell 1, (KP.out.below hb ltP).cell 2, (KP.out.below hb ltP).cell 3, (KP.out.below hb ltP).cell 4, (KP.out.below hb ltP).cell 5, (KP.out.below hb ltP).cell 6, (KP.out.below hb ltP).cell 7, (KP.out.below hb ltP).cell 8, (KP.out.below hb ltP).cell 9, (KP.out.below hb ltP).cell 10, (KP.out.below hb ltP).cell 11, (KP.out.below hb ltP).cell 12, hb⟩))
  refine wp_region_held_drew (S := fun w' => w'.cell? ⟨P, 0, none⟩ = some (.string (bs a0)) ∧ w'.cell? ⟨P, 1, none⟩ = some (.string (bs a1)) ∧ w'.cell? ⟨P, 2, none⟩ = some (.string (bs a2)) ∧ w'.cell? ⟨P, 3, none⟩ = some (.string (bs a3)) ∧ w'.cell? ⟨P, 4, none⟩ = some (.string (bs a4)) ∧ w'.cell? ⟨P, 5, none⟩ = some (.int .u8 a5.toNat) ∧ w'.cell? ⟨P, 6, none⟩ = some (.int .i64 a6) ∧ w'.cell? ⟨P, 7, none⟩ = some (.int .i64 a7) ∧ w'.cell? ⟨P, 8, none⟩ = some (.int .i64 a8) ∧ w'.cell? ⟨P, 9, none⟩ = some (.int .i64 a9) ∧ w'.cell? ⟨P, 10, none⟩ = some (.int .i64 a10) ∧ w'.cell? ⟨P, 11, none⟩ = some (.int .i64 a11) ∧ w'.cell? ⟨P, 12, none⟩ = some (.int .i64 a12) ∧ Below W1.heap.size W1 w') (by kernel_rfl) (KC.out _ (Below.drew bw)) (fun hHeld => ?_)
  refine wpAnyH_takeD (i := 0) (d := 18) (listed' := #[true, false, false, false, false, false, false, false, false, false, false, false, false, false, false, false, false, false, false, false, false, false, false, false, false, false, false, false]) (v := ?_) rfl (by kernel_rfl) (by kernel_rfl) (by kernel_rfl) (by kernel_rfl) (by kernel_rfl) (fun _ _ _ h => hQp _ _ _ _ _ h) (Or.inl ⟨by kernel_rfl, ?_⟩) (by assumption) ?_; rotate_left; (focus (intro w hSw; (try dsimp only at hSw); go_simp; (try with_reducible rfl))); (try simp only [List.foldl_cons, List.foldl_nil, Act.put, List.setIfInBounds_toArray, List.set_cons_zero, List.set_cons_succ])
  refine wpAnyH_takeD (i := 2) (d := 20) (listed' := #[true, false, true, false, false, false, false, false, false, false, false, false, false, false, false, false, false, false, false, false, false, false, false, false, false, false, false, false]) (v := ?_) rfl (by kernel_rfl) (by kernel_rfl) (by kernel_rfl) (by kernel_rfl) (by kernel_rfl) (fun _ _ _ h => hQp _ _ _ _ _ h) (Or.inl ⟨by kernel_rfl, ?_⟩) (by assumption) ?_; rotate_left; (focus (intro w hSw; (try dsimp only at hSw); go_simp; (try with_reducible rfl))); (try simp only [List.foldl_cons, List.foldl_nil, Act.put, List.setIfInBounds_toArray, List.set_cons_zero, List.set_cons_succ])
  refine wpAnyH_takeD (i := 3) (d := 21) (listed' := #[true, false, true, true, false, false, false, false, false, false, false, false, false, false, false, false, false, false, false, false, false, false, false, false, false, false, false, false]) (v := ?_) rfl (by kernel_rfl) (by kernel_rfl) (by kernel_rfl) (by kernel_rfl) (by kernel_rfl) (fun _ _ _ h => hQp _ _ _ _ _ h) (Or.inl ⟨by kernel_rfl, ?_⟩) (by assumption) ?_; rotate_left; (focus (intro w hSw; (try dsimp only at hSw); go_simp; (try with_reducible rfl))); (try simp only [List.foldl_cons, List.foldl_nil, Act.put, List.setIfInBounds_toArray, List.set_cons_zero, List.set_cons_succ])
  refine wpAnyH_takeD (i := 4) (d := 22) (listed' := #[true, false, true, true, true, false, false, false, false, false, false, false, false, false, false, false, false, false, false, false, false, false, false, false, false, false, false, false]) (v := ?_) rfl (by kernel_rfl) (by kernel_rfl) (by kernel_rfl) (by kernel_rfl) (by kernel_rfl) (fun _ _ _ h => hQp _ _ _ _ _ h) (Or.inl ⟨by kernel_rfl, ?_⟩) (by assumption) ?_; rotate_left; (focus (intro w hSw; (try dsimp only at hSw); go_simp; (try with_reducible rfl))); (try simp only [List.foldl_cons, List.foldl_nil, Act.put, List.setIfInBounds_toArray, List.set_cons_zero, List.set_cons_succ])
  refine wpAnyH_takeD (i := 5) (d := 23) (listed' := #[true, false, true, true, true, true, false, false, false, false, false, false, false, false, false, false, false, false, false, false, false, false, false, false, false, false, false, false]) (v := ?_) rfl (by kernel_rfl) (by kernel_rfl) (by kernel_rfl) (by kernel_rfl) (by kernel_rfl) (fun _ _ _ h => hQp _ _ _ _ _ h) (Or.inl ⟨by kernel_rfl, ?_⟩) (by assumption) ?_; rotate_left; (focus (intro w hSw; (try dsimp only at hSw); go_simp; (try with_reducible rfl))); (try simp only [List.foldl_cons, List.foldl_nil, Act.put, List.setIfInBounds_toArray, List.set_cons_zero, List.set_cons_succ])
  refine wpAnyH_takeD (i := 6) (d := 24) (listed' := #[true, false, true, true, true, true, true, false, false, false, false, false, false, false, false, false, false, false, false, false, false, false, false, false, false, false, false, false]) (v := ?_) rfl (by kernel_rfl) (by kernel_rfl) (by kernel_rfl) (by kernel_rfl) (by kernel_rfl) (fun _ _ _ h => hQp _ _ _ _ _ h) (Or.inl ⟨by kernel_rfl, ?_⟩) (by assumption) ?_; rotate_left; (focus (intro w hSw; (try dsimp only at hSw); go_simp; (try with_reducible rfl))); (try simp only [List.foldl_cons, List.foldl_nil, Act.put, List.setIfInBounds_toArray, List.set_cons_zero, List.set_cons_succ])
  refine wpAnyH_takeD (i := 7) (d := 25) (listed' := #[true, false, true, true, true, true, true, true, false, false, false, false, false, false, false, false, false, false, false, false, false, false, false, false, false, false, false, false]) (v := ?_) rfl (by kernel_rfl) (by kernel_rfl) (by kernel_rfl) (by kernel_rfl) (by kernel_rfl) (fun _ _ _ h => hQp _ _ _ _ _ h) (Or.inl ⟨by kernel_rfl, ?_⟩) (by assumption) ?_; rotate_left; (focus (intro w hSw; (try dsimp only at hSw); go_simp; (try with_reducible rfl))); (try simp only [List.foldl_cons, List.foldl_nil, Act.put, List.setIfInBounds_toArray, List.set_cons_zero, List.set_cons_succ])
  refine wpAnyH_takeD (i := 8) (d := 26) (listed' := #[true, false, true, true, true, true, true, true, true, false, false, false, false, false, false, false, false, false, false, false, false, false, false, false, false, false, false, false]) (v := ?_) rfl (by kernel_rfl) (by kernel_rfl) (by kernel_rfl) (by kernel_rfl) (by kernel_rfl) (fun _ _ _ h => hQp _ _ _ _ _ h) (Or.inl ⟨by kernel_rfl, ?_⟩) (by assumption) ?_; rotate_left; (focus (intro w hSw; (try dsimp only at hSw); go_simp; (try with_reducible rfl))); (try simp only [List.foldl_cons, List.foldl_nil, Act.put, List.setIfInBounds_toArray, List.set_cons_zero, List.set_cons_succ])
  refine wpAnyH_takeD (i := 9) (d := 27) (listed' := #[true, false, true, true, true, true, true, true, true, true, false, false, false, false, false, false, false, false, false, false, false, false, false, false, false, false, false, false]) (v := ?_) rfl (by kernel_rfl) (by kernel_rfl) (by kernel_rfl) (by kernel_rfl) (by kernel_rfl) (fun _ _ _ h => hQp _ _ _ _ _ h) (Or.inl ⟨by kernel_rfl, ?_⟩) (by assumption) ?_; rotate_left; (focus (intro w hSw; (try dsimp only at hSw); go_simp; (try with_reducible rfl))); (try simp only [List.foldl_cons, List.foldl_nil, Act.put, List.setIfInBounds_toArray, List.set_cons_zero, List.set_cons_succ])
  refine wpAnyH_takeD (i := 10) (d := 28) (listed' := #[true, false, true, true, true, true, true, true, true, true, true, false, false, false, false, false, false, false, false, false, false, false, false, false, false, false, false, false]) (v := ?_) rfl (by kernel_rfl) (by kernel_rfl) (by kernel_rfl) (by kernel_rfl) (by kernel_rfl) (fun _ _ _ h => hQp _ _ _ _ _ h) (Or.inl ⟨by kernel_rfl, ?_⟩) (by assumption) ?_; rotate_left; (focus (intro w hSw; (try dsimp only at hSw); go_simp; (try with_reducible rfl))); (try simp only [List.foldl_cons, List.foldl_nil, Act.put, List.setIfInBounds_toArray, List.set_cons_zero, List.set_cons_succ])
  refine wpAnyH_takeD (i := 11) (d := 29) (listed' := #[true, false, true, true, true, true, true, true, true, true, true, true, false, false, false, false, false, false, false, false, false, false, false, false, false, false, false, false]) (v := ?_) rfl (by kernel_rfl) (by kernel_rfl) (by kernel_rfl) (by kernel_rfl) (by kernel_rfl) (fun _ _ _ h => hQp _ _ _ _ _ h) (Or.inl ⟨by kernel_rfl, ?_⟩) (by assumption) ?_; rotate_left; (focus (intro w hSw; (try dsimp only at hSw); go_simp; (try with_reducible rfl))); (try simp only [List.foldl_cons, List.foldl_nil, Act.put, List.setIfInBounds_toArray, List.set_cons_zero, List.set_cons_succ])
  refine wpAnyH_takeD (i := 12) (d := 30) (listed' := #[true, false, true, true, true, true, true, true, true, true, true, true, true, false, false, false, false, false, false, false, false, false, false, false, false, false, false, false]) (v := ?_) rfl (by kernel_rfl) (by kernel_rfl) (by kernel_rfl) (by kernel_rfl) (by kernel_rfl) (fun _ _ _ h => hQp _ _ _ _ _ h) (Or.inl ⟨by kernel_rfl, ?_⟩) (by assumption) ?_; rotate_left; (focus (intro w hSw; (try dsimp only at hSw); go_simp; (try with_reducible rfl))); (try simp only [List.foldl_cons, List.foldl_nil, Act.put, List.setIfInBounds_toArray, List.set_cons_zero, List.set_cons_succ])
  refine wpAnyH_takeD (i := 13) (d := 31) (listed' := #[true, false, true, true, true, true, true, true, true, true, true, true, true, true, false, false, false, false, false, false, false, false, false, false, false, false, false, false]) (v := ?_) rfl (by kernel_rfl) (by kernel_rfl) (by kernel_rfl) (by kernel_rfl) (by kernel_rfl) (fun _ _ _ h => hQp _ _ _ _ _ h) (Or.inl ⟨by kernel_rfl, ?_⟩) (by assumption) ?_; rotate_left; (focus (intro w hSw; (try dsimp only at hSw); go_simp; (try with_reducible rfl))); (try simp only [List.foldl_cons, List.foldl_nil, Act.put, List.setIfInBounds_toArray, List.set_cons_zero, List.set_cons_succ])
  refine wpAnyH_takeD (i := 14) (d := 32) (listed' := #[true, false, true, true, true, true, true, true, true, true, true, true, true, true, true, false, false, false, false, false, false, false, false, false, false, false, false, false]) (v := ?_) rfl (by kernel_rfl) (by kernel_rfl) (by kernel_rfl) (by kernel_rfl) (by kernel_rfl) (fun _ _ _ h => hQp _ _ _ _ _ h) (Or.inl ⟨by kernel_rfl, ?_⟩) (by assumption) ?_; rotate_left; (focus (intro w hSw; (try dsimp only at hSw); go_simp; (try with_reducible rfl))); (try simp only [List.foldl_cons, List.foldl_nil, Act.put, List.setIfInBounds_toArray, List.set_cons_zero, List.set_cons_succ])
  refine wpAnyH_takeD (i := 15) (d := 33) (listed' := #[true, false, true, true, true, true, true, true, true, true, true, true, true, true, true, true, false, false, false, false, false, false, false, false, false, false, false, false]) (v := ?_) rfl (by kernel_rfl) (by kernel_rfl) (by kernel_rfl) (by kernel_rfl) (by kernel_rfl) (fun _ _ _ h => hQp _ _ _ _ _ h) (Or.inl ⟨by kernel_rfl, ?_⟩) (by assumption) ?_; rotate_left; (focus (intro w hSw; (try dsimp only at hSw); go_simp; (try with_reducible rfl))); (try simp only [List.foldl_cons, List.foldl_nil, Act.put, List.setIfInBounds_toArray, List.set_cons_zero, List.set_cons_succ])
  refine wpAnyH_takeD (i := 16) (d := 34) (listed' := #[true, false, true, true, true, true, true, true, true, true, true, true, true, true, true, true, true, false, false, false, false, false, false, false, false, false, false, false]) (v := ?_) rfl (by kernel_rfl) (by kernel_rfl) (by kernel_rfl) (by kernel_rfl) (by kernel_rfl) (fun _ _ _ h => hQp _ _ _ _ _ h) (Or.inl ⟨by kernel_rfl, ?_⟩) (by assumption) ?_; rotate_left; (focus (intro w hSw; (try dsimp only at hSw); go_simp; (try with_reducible rfl))); (try simp only [List.foldl_cons, List.foldl_nil, Act.put, List.setIfInBounds_toArray, List.set_cons_zero, List.set_cons_succ])
  refine wpAnyH_takeD (i := 17) (d := 35) (listed' := #[true, false, true, true, true, true, true, true, true, true, true, true, true, true, true, true, true, true, false, false, false, false, false, false, false, false, false, false]) (v := ?_) rfl (by kernel_rfl) (by kernel_rfl) (by kernel_rfl) (by kernel_rfl) (by kernel_rfl) (fun _ _ _ h => hQp _ _ _ _ _ h) (Or.inl ⟨by kernel_rfl, ?_⟩) (by assumption) ?_; rotate_left; (focus (intro w hSw; (try dsimp only at hSw); go_simp; (try with_reducible rfl))); (try simp only [List.foldl_cons, List.foldl_nil, Act.put, List.setIfInBounds_toArray, List.set_cons_zero, List.set_cons_succ])
  refine wpAnyH_takeD (i := 18) (d := 36) (listed' := #[true, false, true, true, true, true, true, true, true, true, true, true, true, true, true, true, true, true, true, false, false, false, false, false, false, false, false, false]) (v := ?_) rfl (by kernel_rfl) (by kernel_rfl) (by kernel_rfl) (by kernel_rfl) (by kernel_rfl) (fun _ _ _ h => hQp _ _ _ _ _ h) (Or.inl ⟨by kernel_rfl, ?_⟩) (by assumption) ?_; rotate_left; (focus (intro w hSw; (try dsimp only at hSw); go_simp; (try with_reducible rfl))); (try simp only [List.foldl_cons, List.foldl_nil, Act.put, List.setIfInBounds_toArray, List.set_cons_zero, List.set_cons_succ])
  refine wpAnyH_takeD (i := 19) (d := 37) (listed' := #[true, false, true, true, true, true, true, true, true, true, true, true, true, true, true, true, true, true, true, true, false, false, false, false, false, false, false, false]) (v := ?_) rfl (by kernel_rfl) (by kernel_rfl) (by kernel_rfl) (by kernel_rfl) (by kernel_rfl) (fun _ _ _ h => hQp _ _ _ _ _ h) (Or.inl ⟨by kernel_rfl, ?_⟩) (by assumption) ?_; rotate_left; (focus (intro w hSw; (try dsimp only at hSw); go_simp; (try with_reducible rfl))); (try simp only [List.foldl_cons, List.foldl_nil, Act.put, List.setIfInBounds_toArray, List.set_cons_zero, List.set_cons_succ])
  refine wpAnyH_takeD (i := 20) (d := 38) (listed' := #[true, false, true, true, true, true, true, true, true, true, true, true, true, true, true, true, true, true, true, true, true, false, false, false, false, false, false, false]) (v := ?_) rfl (by kernel_rfl) (by kernel_rfl) (by kernel_rfl) (by kernel_rfl) (by kernel_rfl) (fun _ _ _ h => hQp _ _ _ _ _ h) (Or.inl ⟨by kernel_rfl, ?_⟩) (by assumption) ?_; rotate_left; (focus (intro w hSw; (try dsimp only at hSw); go_simp; (try with_reducible rfl))); (try simp only [List.foldl_cons, List.foldl_nil, Act.put, List.setIfInBounds_toArray, List.set_cons_zero, List.set_cons_succ])
  refine wpAnyH_takeD (i := 21) (d := 39) (listed' := #[true, false, true, true, true, true, true, true, true, true, true, true, true, true, true, true, true, true, true, true, true, true, false, false, false, false, false, false]) (v := ?_) rfl (by kernel_rfl) (by kernel_rfl) (by kernel_rfl) (by kernel_rfl) (by kernel_rfl) (fun _ _ _ h => hQp _ _ _ _ _ h) (Or.inl ⟨by kernel_rfl, ?_⟩) (by assumption) ?_; rotate_left; (focus (intro w hSw; (try dsimp only at hSw); go_simp; (try with_reducible rfl))); (try simp only [List.foldl_cons, List.foldl_nil, Act.put, List.setIfInBounds_toArray, List.set_cons_zero, List.set_cons_succ])
  refine wpAnyH_takeD (i := 22) (d := 40) (listed' := #[true, false, true, true, true, true, true, true, true, true, true, true, true, true, true, true, true, true, true, true, true, true, true, false, false, false, false, false]) (v := ?_) rfl (by kernel_rfl) (by kernel_rfl) (by kernel_rfl) (by kernel_rfl) (by kernel_rfl) (fun _ _ _ h => hQp _ _ _ _ _ h) (Or.inl ⟨by kernel_rfl, ?_⟩) (by assumption) ?_; rotate_left; (focus (intro w hSw; (try dsimp only at hSw); go_simp; (try with_reducible rfl))); (try simp only [List.foldl_cons, List.foldl_nil, Act.put, List.setIfInBounds_toArray, List.set_cons_zero, List.set_cons_succ])
  refine wpAnyH_takeD (i := 23) (d := 41) (listed' := #[true, false, true, true, true, true, true, true, true, true, true, true, true, true, true, true, true, true, true, true, true, true, true, true, false, false, false, false]) (v := ?_) rfl (by kernel_rfl) (by kernel_rfl) (by kernel_rfl) (by kernel_rfl) (by kernel_rfl) (fun _ _ _ h => hQp _ _ _ _ _ h) (Or.inl ⟨by kernel_rfl, ?_⟩) (by assumption) ?_; rotate_left; (focus (intro w hSw; (try dsimp only at hSw); go_simp; (try with_reducible rfl))); (try simp only [List.foldl_cons, List.foldl_nil, Act.put, List.setIfInBounds_toArray, List.set_cons_zero, List.set_cons_succ])
  refine wpAnyH_takeD (i := 24) (d := 42) (listed' := #[true, false, true, true, true, true, true, true, true, true, true, true, true, true, true, true, true, true, true, true, true, true, true, true, true, false, false, false]) (v := ?_) rfl (by kernel_rfl) (by kernel_rfl) (by kernel_rfl) (by kernel_rfl) (by kernel_rfl) (fun _ _ _ h => hQp _ _ _ _ _ h) (Or.inl ⟨by kernel_rfl, ?_⟩) (by assumption) ?_; rotate_left; (focus (intro w hSw; (try dsimp only at hSw); go_simp; (try with_reducible rfl))); (try simp only [List.foldl_cons, List.foldl_nil, Act.put, List.setIfInBounds_toArray, List.set_cons_zero, List.set_cons_succ])
  obtain ⟨x0, hx0⟩ : ∃ x, x = W1.drew := ⟨_, rfl⟩
  have BD := Lib.hid (show Below W1.heap.size W1 x0 by rw [hx0]; exact Below.drew bw)
  rw [← hx0]
  clear hx0 hHeld
  refine wpAnyH_ready (rs := [1, 26]) (by kernel_rfl) (by simp) ?_
  refine AllReadyH.cons rfl (fun K hK => ?_) (AllReadyH.cons rfl (fun K hK => ?_) AllReadyH.nil)
  · skip
    go_simp
    refine (FUC.out _).mono ?_
    rintro r x1 ⟨rfl, hx⟩
    have B1 := Lib.hid (thenB BD.out hx)
    clear hx
    refine hK.out _ _ (KC.out _ B1.out) (fun hHeld1 => ?_)
    clear hK K
    (try simp only [List.foldl_cons, List.foldl_nil, Act.put, List.setIfInBounds_toArray, List.set_cons_zero, List.set_cons_succ])
    refine wpAnyH_takeD (i := 25) (d := 43) (listed' := #[true, true, true, true, true, true, true, true, true, true, true, true, true, true, true, true, true, true, true, true, true, true, true, true, true, true, false, false]) (v := ?_) rfl (by kernel_rfl) (by kernel_rfl) (by kernel_rfl) (by kernel_rfl) (by kernel_rfl) (fun _ _ _ h => hQp _ _ _ _ _ h) (Or.inl ⟨by kernel_rfl, ?_⟩) (by assumption) ?_; rotate_left; (focus (intro w hSw; (try dsimp only at hSw); go_simp; (try with_reducible rfl))); (try simp only [List.foldl_cons, List.foldl_nil, Act.put, List.setIfInBounds_toArray, List.set_cons_zero, List.set_cons_succ])
    refine wpAnyH_ready (rs := [26]) (by kernel_rfl) (by simp) ?_
    refine AllReadyH.cons rfl (fun K hK => ?_) AllReadyH.nil
    go_simp
    obtain ⟨x2, hx2⟩ : ∃ x, x = x1.alloc (.cells #[.string ⟨#[]⟩, .int .u8 0, .int .i64 0, .int .i64 0, .int .i64 0, .int .i64 0, .int .i64 0, .int .i64 0, .string ⟨#[]⟩, .string ⟨#[]⟩, .string ⟨#[]⟩, .int .i64 0, .int .i64 0, .string ⟨#[]⟩, .slice none 0 0] 26) := ⟨_, rfl⟩
    have hx : Below x1.heap.size x1 x2 := by rw [hx2]; exact (Below.refl _ _).alloc (Nat.le_refl _) _
    have G2 := Lib.hid (show Blk x2 x1.heap.size 26 #[.string ⟨#[]⟩, .int .u8 0, .int .i64 0, .int .i64 0, .int .i64 0, .int .i64 0, .int .i64 0, .int .i64 0, .string ⟨#[]⟩, .string ⟨#[]⟩, .string ⟨#[]⟩, .int .i64 0, .int .i64 0, .string ⟨#[]⟩, .slice none 0 0] by rw [hx2]; exact Blk.new x1 26 _)
    have B2 := Lib.hid (thenB B1.out hx)
    rw [← hx2]
    obtain ⟨E, hE⟩ : ∃ E, E = x1.heap.size := ⟨_, rfl⟩
    have hEz : W1.heap.size ≤ E := by rw [hE]; exact B1.out.size
    rw [← hE] at G2 ⊢
    clear hx hx2 hE
    refine hK.out _ _ (KC.out _ B2.out) (fun hHeld2 => ?_)
    clear hK K
    (try simp only [List.foldl_cons, List.foldl_nil, Act.put, List.setIfInBounds_toArray, List.set_cons_zero, List.set_cons_succ])
    refine wpAnyH_ready (rs := [27]) (by kernel_rfl) (by simp) ?_
    refine AllReadyH.cons rfl (fun K hK => ?_) AllReadyH.nil
    have c0 := G2.out.cell 0
    have f0 := G2.out.frozen 0
    have c1 := G2.out.cell 1
    have f1 := G2.out.frozen 1
    have c2 := G2.out.cell 2
    have f2 := G2.out.frozen 2
    have c3 := G2.out.cell 3
    have f3 := G2.out.frozen 3
    have c4 := G2.out.cell 4
    have f4 := G2.out.frozen 4
    have c5 := G2.out.cell 5
    have f5 := G2.out.frozen 5
    have c6 := G2.out.cell 6
    have f6 := G2.out.frozen 6
    have c7 := G2.out.cell 7
    have f7 := G2.out.frozen 7
    have c8 := G2.out.cell 8
    have f8 := G2.out.frozen 8
    have c9 := G2.out.cell 9
    have f9 := G2.out.frozen 9
    have c10 := G2.out.cell 10
    have f10 := G2.out.frozen 10
    have c11 := G2.out.cell 11
    have f11 := G2.out.frozen 11
    have c12 := G2.out.cell 12
    have f12 := G2.out.frozen 12
    have c13 := G2.out.cell 13
    have f13 := G2.out.frozen 13
    have c14 := G2.out.cell 14
    have f14 := G2.out.frozen 14
    have lE := G2.out.lt
    go_simp
    have hX := set15 G2.out (.string (bs FN)) (.int .u8 a5.toNat) (.int .i64 a6) (.int .i64 a7) (.int .i64 a8) (.int .i64 a9) (.int .i64 a10) (.int .i64 0) (.string (bs a1)) (.string (bs a2)) (.string (bs a3)) (.int .i64 a11) (.int .i64 a12) (.string ⟨#[]⟩) (.slice none 0 0)
    have hXb := below15 B2.out hEz (.string (bs FN)) (.int .u8 a5.toNat) (.int .i64 a6) (.int .i64 a7) (.int .i64 a8) (.int .i64 a9) (.int .i64 a10) (.int .i64 0) (.string (bs a1)) (.string (bs a2)) (.string (bs a3)) (.int .i64 a11) (.int .i64 a12) (.string ⟨#[]⟩) (.slice none 0 0)
    generalize hX0 : World.setCell _ ⟨E, 14, none⟩ (.slice none 0 0) = X at hX hXb ⊢
    refine hK.out _ _ (KC.out _ hXb) (fun hHeldZ => ?_)
    clear hK K
    (try simp only [List.foldl_cons, List.foldl_nil, Act.put, List.setIfInBounds_toArray, List.set_cons_zero, List.set_cons_succ])
    refine wpAnyH_done (by kernel_rfl) ?_ _
    exact hQ E _ _ _ _ _ _ _ _ _ _ _ _ _ _ _ _ _ _ _ _ _ _ _ _ _ _ _ hEz hX hXb
  · skip
    go_simp
    obtain ⟨x1, hx1⟩ : ∃ x, x = x0.alloc (.cells #[.string ⟨#[]⟩, .int .u8 0, .int .i64 0, .int .i64 0, .int .i64 0, .int .i64 0, .int .i64 0, .int .i64 0, .string ⟨#[]⟩, .string ⟨#[]⟩, .string ⟨#[]⟩, .int .i64 0, .int .i64 0, .string ⟨#[]⟩, .slice none 0 0] 26) := ⟨_, rfl⟩
    have hx : Below x0.heap.size x0 x1 := by rw [hx1]; exact (Below.refl _ _).alloc (Nat.le_refl _) _
    have G1 := Lib.hid (show Blk x1 x0.heap.size 26 #[.string ⟨#[]⟩, .int .u8 0, .int .i64 0, .int .i64 0, .int .i64 0, .int .i64 0, .int .i64 0, .int .i64 0, .string ⟨#[]⟩, .string ⟨#[]⟩, .string ⟨#[]⟩, .int .i64 0, .int .i64 0, .string ⟨#[]⟩, .slice none 0 0] by rw [hx1]; exact Blk.new x0 26 _)
    have B1 := Lib.hid (thenB BD.out hx)
    rw [← hx1]
    obtain ⟨E, hE⟩ : ∃ E, E = x0.heap.size := ⟨_, rfl⟩
    have hEz : W1.heap.size ≤ E := by rw [hE]; exact BD.out.size
    rw [← hE] at G1 ⊢
    clear hx hx1 hE
    refine hK.out _ _ (KC.out _ B1.out) (fun hHeld1 => ?_)
    clear hK K
    (try simp only [List.foldl_cons, List.foldl_nil, Act.put, List.setIfInBounds_toArray, List.set_cons_zero, List.set_cons_succ])
    refine wpAnyH_ready (rs := [1]) (by kernel_rfl) (by simp) ?_
    refine AllReadyH.cons rfl (fun K hK => ?_) AllReadyH.nil
    go_simp
    refine (FUC.out _).mono ?_
    rintro r x2 ⟨rfl, hx⟩
    have G2 := Lib.hid (G1.out.below hx G1.out.lt)
    have B2 := Lib.hid (thenB B1.out hx)
    clear hx
    refine hK.out _ _ (KC.out _ B2.out) (fun hHeld2 => ?_)
    clear hK K
    (try simp only [List.foldl_cons, List.foldl_nil, Act.put, List.setIfInBounds_toArray, List.set_cons_zero, List.set_cons_succ])
    refine wpAnyH_takeD (i := 25) (d := 43) (listed' := #[true, true, true, true, true, true, true, true, true, true, true, true, true, true, true, true, true, true, true, true, true, true, true, true, true, true, true, false]) (v := ?_) rfl (by kernel_rfl) (by kernel_rfl) (by kernel_rfl) (by kernel_rfl) (by kernel_rfl) (fun _ _ _ h => hQp _ _ _ _ _ h) (Or.inl ⟨by kernel_rfl, ?_⟩) (by assumption) ?_; rotate_left; (focus (intro w hSw; (try dsimp only at hSw); go_simp; (try with_reducible rfl))); (try simp only [List.foldl_cons, List.foldl_nil, Act.put, List.setIfInBounds_toArray, List.set_cons_zero, List.set_cons_succ])
    refine wpAnyH_ready (rs := [27]) (by kernel_rfl) (by simp) ?_
    refine AllReadyH.cons rfl (fun K hK => ?_) AllReadyH.nil
    have c0 := G2.out.cell 0
    have f0 := G2.out.frozen 0
    have c1 := G2.out.cell 1
    have f1 := G2.out.frozen 1
    have c2 := G2.out.cell 2
    have f2 := G2.out.frozen 2
    have c3 := G2.out.cell 3
    have f3 := G2.out.frozen 3
    have c4 := G2.out.cell 4
    have f4 := G2.out.frozen 4
    have c5 := G2.out.cell 5
    have f5 := G2.out.frozen 5
    have c6 := G2.out.cell 6
    have f6 := G2.out.frozen 6
    have c7 := G2.out.cell 7
    have f7 := G2.out.frozen 7
    have c8 := G2.out.cell 8
    have f8 := G2.out.frozen 8
    have c9 := G2.out.cell 9
    have f9 := G2.out.frozen 9
    have c10 := G2.out.cell 10
    have f10 := G2.out.frozen 10
    have c11 := G2.out.cell 11
    have f11 := G2.out.frozen 11
    have c12 := G2.out.cell 12
    have f12 := G2.out.frozen 12
    have c13 := G2.out.cell 13
    have f13 := G2.out.frozen 13
    have c14 := G2.out.cell 14
    have f14 := G2.out.frozen 14
    have lE := G2.out.lt
    go_simp
    have hX := set15 G2.out (.string (bs FN)) (.int .u8 a5.toNat) (.int .i64 a6) (.int .i64 a7) (.int .i64 a8) (.int .i64 a9) (.int .i64 a10) (.int .i64 0) (.string (bs a1)) (.string (bs a2)) (.string (bs a3)) (.int .i64 a11) (.int .i64 a12) (.string ⟨#[]⟩) (.slice none 0 0)
    have hXb := below15 B2.out hEz (.string (bs FN)) (.int .u8 a5.toNat) (.int .i64 a6) (.int .i64 a7) (.int .i64 a8) (.int .i64 a9) (.int .i64 a10) (.int .i64 0) (.string (bs a1)) (.string (bs a2)) (.string (bs a3)) (.int .i64 a11) (.int .i64 a12) (.string ⟨#[]⟩) (.slice none 0 0)
    generalize hX0 : World.setCell _ ⟨E, 14, none⟩ (.slice none 0 0) = X at hX hXb ⊢
    refine hK.out _ _ (KC.out _ hXb) (fun hHeldZ => ?_)
    clear hK K
    (try simp only [List.foldl_cons, List.foldl_nil, Act.put, List.setIfInBounds_toArray, List.set_cons_zero, List.set_cons_succ])
    refine wpAnyH_done (by kernel_rfl) ?_ _
    exact hQ E _ _ _ _ _ _ _ _ _ _ _ _ _ _ _ _ _ _ _ _ _ _ _ _ _ _ _ hEz hX hXb

set_option maxRecDepth 100000 in
set_option maxHeartbeats 8000000 in
theorem mb_r8 {u : World} {R E : Nat} {st : Rd} {Xg Xo : Option Addr} {cg co : Nat} (k7 : u.cell? ⟨R, 7, none⟩ = some (.slice Xg st.glob.length cg)) (k6 : u.cell? ⟨R, 6, none⟩ = some (.slice Xo st.own.length co)) (lR : R < u.heap.size)
    (hglob : Hid (PairsIn u (.slice Xg st.glob.length cg) st.glob)) (hown : Hid (PairsIn u (.slice Xo st.own.length co) st.own)) (lE : E < u.heap.size) (hgo : st.glob.length + st.own.length ≤ 100000)
    {ops : Array Oper} (hops : opsAt Tryz.f46 8 = some ops) {Q : Exit → Act → World → Prop} (hQp : ∀ x a (t : Tmp) v w, Q (.panic x) (a.put (some t) v) w → Q (.panic x) a w) {u1 u2 u3 u4 u5 u6 u7 u8 u9 u10 u11 u12 u13 u14 u15 u16 u17 u18 u19 u20 u21 u22 u23 u24 u25 u26 u27 u28 u29 u30 u31 u32 u33 u34 u35 u36 u37 u38 u39 u40 u41 u42 u43 u44 u45 u46 u47 u48 u49 u50 u51 u52 u53 u54 u55 u56 u57 u58 u59 u60 u61 u62 u63 u64 u65 u66 u67 u68 u69 u70 u71 u72 u73 u74 u75 u76 u77 u78 u79 u80 u81 u82 u83 u84 u85 u86 u87 u88 u89 u90 u91 u92 u93 u94 u95 u96 u97 u98 u99 u100 u101 u102 u103 u104 u105 u106 u107 u108 u109 u110 u111 u112 u113 u114 u115 u116 u117 u118 u119 u120 u121 u122 u123 u124 u125 u126 u127 u128 u129 u130 u131 u132 u133 u134 u135 u136 u137 u138 u139 u140 u141 u142 u143 u144 u145 u146 u147 u148 u149 u150 u151 u152 u153 u154 u155 u156 : Value}
    (hQ : ∀ (y : World) (v v70 v71 v72 v73 v74 v75 v76 v77 v78 v79 : Value), PairsIn y v (recsP st) → offE E v → Below u.heap.size u y → Q .normal ⟨#[.pointer (some ⟨R, 0, none⟩), u1, u2, u3, u4, u5, u6, u7, v, u9, u10, u11, u12, u13, u14, u15, u16, u17, u18, u19, u20, u21, u22, u23, u24, u25, u26, u27, u28, u29, u30, u31, u32, u33, u34, u35, u36, u37, u38, u39, u40, u41, u42, u43, u44, u45, u46, u47, u48, u49, u50, u51, u52, u53, u54, u55, u56, u57, u58, u59, u60, u61, u62, u63, u64, u65, u66, u67, u68, u69, v70, v71, v72, v73, v74, v75, v76, v77, v78, v79, u80, u81, u82, u83, u84, u85, u86, u87, u88, u89, u90, u91, u92, u93, u94, u95, u96, u97, u98, u99, u100, u101, u102, u103, u104, u105, u106, u107, u108, u109, u110, u111, u112, u113, u114, u115, u116, u117, u118, u119, u120, u121, u122, u123, u124, u125, u126, u127, u128, u129, u130, u131, u132, u133, u134, u135, u136, u137, u138, u139, u140, u141, u142, u143, u144, u145, u146, u147, u148, u149, u150, u151, u152, u153, u154, u155, u156], []⟩ y) :
    Code.wp Tryz.prog (.region 8 ops true) Q ⟨#[.pointer (some ⟨R, 0, none⟩), u1, u2, u3, u4, u5, u6, u7, u8, u9, u10, u11, u12, u13, u14, u15, u16, u17, u18, u19, u20, u21, u22, u23, u24, u25, u26, u27, u28, u29, u30, u31, u32, u33, u34, u35, u36, u37, u38, u39, u40, u41, u42, u43, u44, u45, u46, u47, u48, u49, u50, u51, u52, u53, u54, u55, u56, u57, u58, u59, u60, u61, u62, u63, u64, u65, u66, u67, u68, u69, u70, u71, u72, u73, u74, u75, u76, u77, u78, u79, u80, u81, u82, u83, u84, u85, u86, u87, u88, u89, u90, u91, u92, u93, u94, u95, u96, u97, u98, u99, u100, u101, u102, u103, u104, u105, u106, u107, u108, u109, u110, u111, u112, u113, u114, u115, u116, u117, u118, u119, u120, u121, u122, u123, u124, u125, u126, u127, u128, u129, u130, u131, u132, u133, u134, u135, u136, u137, u138, u139, u140, u141, u142, u143, u144, u145, u146, u147, u148, u149, u150, u151, u152, u153, u154, u155, u156], []⟩ u := by
  unfold opsAt Tryz.f46 at hops
  injection hops with hops
  subst hops
  have bu := Below.refl u.heap.size u
  have KV := Lib.hid (fun w' (hb : Below u.heap.size u w') => (show w'.cell? ⟨R, 7, none⟩ = some (.slice Xg st.glob.length cg) ∧ w'.cell? ⟨R, 6, none⟩ = some (.slice Xo st.own.length co) ∧ Below u.heap.size u w' from ⟨(hb.cell (p := ⟨R, 7, none⟩) lR).trans k7, (hb.cell (p := ⟨R, 6, none⟩) lR).trans k6, hb⟩))
  clear k7 k6
  refine wp_region_held_drew (S := fun w' => w'.cell? ⟨R, 7, none⟩ = some (.slice Xg st.glob.length cg) ∧ w'.cell? ⟨R, 6, none⟩ = some (.slice Xo st.own.length co) ∧ Below u.heap.size u w') (by kernel_rfl) (KV.out _ (Below.drew bu)) (fun hHeld => ?_)
  refine wpAnyH_takeD (i := 0) (d := 70) (listed' := #[true, false, false, false, false, false, false, false, false, false, false]) (v := ?_) rfl (by kernel_rfl) (by kernel_rfl) (by kernel_rfl) (by kernel_rfl) (by kernel_rfl) (fun _ _ _ h => hQp _ _ _ _ _ h) (Or.inl ⟨by kernel_rfl, ?_⟩) (by assumption) ?_; rotate_left; (focus (intro w hSw; (try dsimp only at hSw); go_simp; (try with_reducible rfl))); (try simp only [List.foldl_cons, List.foldl_nil, Act.put, List.setIfInBounds_toArray, List.set_cons_zero, List.set_cons_succ])
  refine wpAnyH_takeD (i := 1) (d := 71) (listed' := #[true, true, false, false, false, false, false, false, false, false, false]) (v := ?_) rfl (by kernel_rfl) (by kernel_rfl) (by kernel_rfl) (by kernel_rfl) (by kernel_rfl) (fun _ _ _ h => hQp _ _ _ _ _ h) (Or.inl ⟨by kernel_rfl, ?_⟩) (by assumption) ?_; rotate_left; (focus (intro w hSw; (try dsimp only at hSw); go_simp; (try with_reducible rfl))); (try simp only [List.foldl_cons, List.foldl_nil, Act.put, List.setIfInBounds_toArray, List.set_cons_zero, List.set_cons_succ])
  refine wpAnyH_takeD (i := 2) (d := 72) (listed' := #[true, true, true, false, false, false, false, false, false, false, false]) (v := ?_) rfl (by kernel_rfl) (by kernel_rfl) (by kernel_rfl) (by kernel_rfl) (by kernel_rfl) (fun _ _ _ h => hQp _ _ _ _ _ h) (Or.inl ⟨by kernel_rfl, ?_⟩) (by assumption) ?_; rotate_left; (focus (intro w hSw; (try dsimp only at hSw); go_simp; (try with_reducible rfl))); (try simp only [List.foldl_cons, List.foldl_nil, Act.put, List.setIfInBounds_toArray, List.set_cons_zero, List.set_cons_succ])
  refine wpAnyH_takeD (i := 3) (d := 73) (listed' := #[true, true, true, true, false, false, false, false, false, false, false]) (v := ?_) rfl (by kernel_rfl) (by kernel_rfl) (by kernel_rfl) (by kernel_rfl) (by kernel_rfl) (fun _ _ _ h => hQp _ _ _ _ _ h) (Or.inl ⟨by kernel_rfl, ?_⟩) (by assumption) ?_; rotate_left; (focus (intro w hSw; (try dsimp only at hSw); go_simp; (try with_reducible rfl))); (try simp only [List.foldl_cons, List.foldl_nil, Act.put, List.setIfInBounds_toArray, List.set_cons_zero, List.set_cons_succ])
  refine wpAnyH_takeD (i := 4) (d := 74) (listed' := #[true, true, true, true, true, false, false, false, false, false, false]) (v := ?_) rfl (by kernel_rfl) (by kernel_rfl) (by kernel_rfl) (by kernel_rfl) (by kernel_rfl) (fun _ _ _ h => hQp _ _ _ _ _ h) (Or.inl ⟨by kernel_rfl, ?_⟩) (by assumption) ?_; rotate_left; (focus (intro w hSw; (try dsimp only at hSw); go_simp; (try with_reducible rfl))); (try simp only [List.foldl_cons, List.foldl_nil, Act.put, List.setIfInBounds_toArray, List.set_cons_zero, List.set_cons_succ])
  refine wpAnyH_takeD (i := 5) (d := 75) (listed' := #[true, true, true, true, true, true, false, false, false, false, false]) (v := ?_) rfl (by kernel_rfl) (by kernel_rfl) (by kernel_rfl) (by kernel_rfl) (by kernel_rfl) (fun _ _ _ h => hQp _ _ _ _ _ h) (Or.inl ⟨by kernel_rfl, ?_⟩) (by assumption) ?_; rotate_left; (focus (intro w hSw; (try dsimp only at hSw); go_simp; (try with_reducible rfl))); (try simp only [List.foldl_cons, List.foldl_nil, Act.put, List.setIfInBounds_toArray, List.set_cons_zero, List.set_cons_succ])
  refine wpAnyH_takeD (i := 6) (d := 76) (listed' := #[true, true, true, true, true, true, true, false, false, false, false]) (v := ?_) rfl (by kernel_rfl) (by kernel_rfl) (by kernel_rfl) (by kernel_rfl) (by kernel_rfl) (fun _ _ _ h => hQp _ _ _ _ _ h) (Or.inl ⟨by kernel_rfl, ?_⟩) (by assumption) ?_; rotate_left; (focus (intro w hSw; (try dsimp only at hSw); go_simp; (try with_reducible rfl))); (try simp only [List.foldl_cons, List.foldl_nil, Act.put, List.setIfInBounds_toArray, List.set_cons_zero, List.set_cons_succ])
  refine wpAnyH_takeD (i := 7) (d := 77) (listed' := #[true, true, true, true, true, true, true, true, false, false, false]) (v := ?_) rfl (by kernel_rfl) (by kernel_rfl) (by kernel_rfl) (by kernel_rfl) (by kernel_rfl) (fun _ _ _ h => hQp _ _ _ _ _ h) (Or.inl ⟨by kernel_rfl, ?_⟩) (by assumption) ?_; rotate_left; (focus (intro w hSw; (try dsimp only at hSw); go_simp; (try with_reducible rfl))); (try simp only [List.foldl_cons, List.foldl_nil, Act.put, List.setIfInBounds_toArray, List.set_cons_zero, List.set_cons_succ])
  obtain ⟨x0, hx0⟩ : ∃ x, x = u.drew := ⟨_, rfl⟩
  have BD := Lib.hid (show Below u.heap.size u x0 by rw [hx0]; exact Below.drew bu)
  rw [← hx0]
  clear hx0 hHeld
  refine wpAnyH_ready (rs := [8]) (by kernel_rfl) (by simp) ?_
  refine AllReadyH.cons rfl (fun K hK => ?_) AllReadyH.nil
  go_simp
  obtain ⟨x1, hx1⟩ : ∃ x, x = x0.alloc (.cells #[.slice Xg st.glob.length cg, .slice Xo st.own.length co] 36) := ⟨_, rfl⟩
  have hx : Below x0.heap.size x0 x1 := by rw [hx1]; exact (Below.refl _ _).alloc (Nat.le_refl _) _
  have G1 := Lib.hid (show Blk x1 x0.heap.size 36 #[.slice Xg st.glob.length cg, .slice Xo st.own.length co] by rw [hx1]; exact Blk.new x0 36 _)
  have B1 := Lib.hid (thenB BD.out hx)
  rw [← hx1]
  obtain ⟨g, hg⟩ : ∃ g, g = x0.heap.size := ⟨_, rfl⟩
  rw [← hg] at G1 ⊢
  clear hx hx1 hg
  refine hK.out _ _ (KV.out _ B1.out) (fun hHeld1 => ?_)
  clear hK K
  (try simp only [List.foldl_cons, List.foldl_nil, Act.put, List.setIfInBounds_toArray, List.set_cons_zero, List.set_cons_succ])
  refine wpAnyH_ready (rs := [9]) (by kernel_rfl) (by simp) ?_
  refine AllReadyH.cons rfl (fun K hK => ?_) AllReadyH.nil
  go_simp
  have hL := lists_two (G1.out.cell 0) (G1.out.cell 1) (hglob.out.below B1.out) (hown.out.below B1.out)
  refine (merge_any g [st.glob, st.own] x1 G1.out.lt hL (by simp) (by simp; omega)).mono ?_
  rintro r x2 ⟨v, M, rfl, hM, hv, hx⟩
  have hfl : ([st.glob, st.own] : List (List Px.Rec)).flatten = st.glob ++ st.own := by simp
  rw [hfl] at hM
  have hMM : M = recsP st := (mergeP_is hM).symm
  have hp : PairsIn x2 v M := merge_in hv hM (by rw [List.length_append]; omega) (fun q hq => by
    rcases List.mem_append.1 hq with hq | hq
    · exact hglob.out.sizes q hq
    · exact hown.out.sizes q hq)
  have PV := Lib.hid (hMM ▸ hp)
  have OV := Lib.hid (hv.off (E := E) (Nat.lt_of_lt_of_le lE B1.out.size))
  have B2 := Lib.hid (thenB B1.out hx)
  clear hv hM hMM hp hx hL hfl
  refine hK.out _ _ (KV.out _ B2.out) (fun hHeld2 => ?_)
  clear hK K hHeld1
  (try simp only [List.foldl_cons, List.foldl_nil, Act.put, List.setIfInBounds_toArray, List.set_cons_zero, List.set_cons_succ])
  refine wpAnyH_takeD (i := 10) (d := 8) (listed' := #[true, true, true, true, true, true, true, true, true, true, true]) (v := ?_) rfl (by kernel_rfl) (by kernel_rfl) (by kernel_rfl) (by kernel_rfl) (by kernel_rfl) (fun _ _ _ h => hQp _ _ _ _ _ h) (Or.inl ⟨by kernel_rfl, ?_⟩) (by assumption) ?_; rotate_left; (focus (intro w hSw; (try dsimp only at hSw); go_simp; (try with_reducible rfl))); (try simp only [List.foldl_cons, List.foldl_nil, Act.put, List.setIfInBounds_toArray, List.set_cons_zero, List.set_cons_succ])
  refine wpAnyH_done (by kernel_rfl) ?_ _
  exact hQ _ _ _ _ _ _ _ _ _ _ _ _ PV.out OV.out B2.out

set_option maxRecDepth 100000 in
set_option maxHeartbeats 8000000 in
theorem mb_r32 {y8 : World} {P E : Nat} {e3 : Ent} {a0 a1 a2 a3 a4 : Bl} {a5 : UInt8} {a6 a7 a8 a9 a10 a11 a12 NX PDN FIN : Int} (KE8 : Hid (Blk y8 E 26 (evc e3 (.slice none 0 0)))) (KP8 : Hid (Blk y8 P 72 #[.string (bs a0), .string (bs a1), .string (bs a2), .string (bs a3), .string (bs a4), .int .u8 a5.toNat, .int .i64 a6, .int .i64 a7, .int .i64 a8, .int .i64 a9, .int .i64 a10, .int .i64 a11, .int .i64 a12])) (KQ8 : Hid (Blk y8 (P + 1) 26 #[.string ⟨#[]⟩, .int .u8 0, .int .i64 0, .int .i64 0, .int .i64 0, .int .i64 0, .int .i64 0, .int .i64 0, .string ⟨#[]⟩, .string ⟨#[]⟩, .string ⟨#[]⟩, .int .i64 0, .int .i64 0, .string ⟨#[]⟩, .slice none 0 0])) (hEP : E ≠ P + 1)
    (PDC : Hid (∀ w, Calls Tryz.prog 88 #[.int .i64 a9] w fun e w' => e = .returned (.int .i64 PDN) ∧ w' = w)) (j2 : IntKind.i64.wrap (NX + a9) = NX + a9) (j3 : IntKind.i64.wrap (NX + a9 + PDN) = FIN)
    {ops : Array Oper} (hops : opsAt Tryz.f46 32 = some ops) {Q : Exit → Act → World → Prop} (hQp : ∀ x a (t : Tmp) v w, Q (.panic x) (a.put (some t) v) w → Q (.panic x) a w) {u0 u1 u2 u5 u6 u8 u9 u11 u12 u13 u14 u15 u16 u17 u18 u19 u20 u21 u22 u23 u24 u25 u26 u27 u28 u29 u30 u31 u32 u33 u34 u35 u36 u37 u38 u39 u40 u41 u42 u43 u44 u45 u46 u47 u48 u49 u50 u51 u52 u53 u54 u55 u56 u57 u58 u59 u60 u61 u62 u63 u64 u65 u66 u67 u68 u69 u70 u71 u72 u73 u74 u75 u76 u77 u78 u79 u80 u81 u82 u83 u84 u85 u86 u87 u88 u89 u90 u91 u92 u93 u94 u95 u96 u97 u98 u99 u100 u101 u102 u103 u104 u105 u106 u107 u108 u109 u110 u111 u112 u113 u114 u115 u116 u117 u118 u119 u120 u121 u122 u123 u124 u125 u126 u127 u128 u129 u130 u131 u132 u133 u134 u135 u136 u137 u138 u139 u140 u141 u142 u143 u144 u145 u146 u147 u148 u149 u150 u151 u152 u153 u154 u155 u156 : Value}
    (hQ : ∀ (X : World) (v148 v149 v150 v151 v152 v153 v154 v155 v156 : Value), Blk X (P + 1) 26 (evc e3 (.slice none 0 0)) → KeepE (P + 1) y8.heap.size y8 X → Q .normal ⟨#[u0, u1, u2, .pointer (some ⟨P, 0, none⟩), .pointer (some ⟨P + 1, 0, none⟩), .int .i64 FIN, .nilIface, .pointer (some ⟨E, 0, none⟩), u8, u9, .int .i64 NX, u11, u12, u13, u14, u15, u16, u17, u18, u19, u20, u21, u22, u23, u24, u25, u26, u27, u28, u29, u30, u31, u32, u33, u34, u35, u36, u37, u38, u39, u40, u41, u42, u43, u44, u45, u46, u47, u48, u49, u50, u51, u52, u53, u54, u55, u56, u57, u58, u59, u60, u61, u62, u63, u64, u65, u66, u67, u68, u69, u70, u71, u72, u73, u74, u75, u76, u77, u78, u79, u80, u81, u82, u83, u84, u85, u86, u87, u88, u89, u90, u91, u92, u93, u94, u95, u96, u97, u98, u99, u100, u101, u102, u103, u104, u105, u106, u107, u108, u109, u110, u111, u112, u113, u114, u115, u116, u117, u118, u119, u120, u121, u122, u123, u124, u125, u126, u127, u128, u129, u130, u131, u132, u133, u134, u135, u136, u137, u138, u139, u140, u141, u142, u143, u144, u145, u146, u147, v148, v149, v150, v151, v152, v153, v154, v155, v156], []⟩ X) :
    Code.wp Tryz.prog (.region 32 ops true) Q ⟨#[u0, u1, u2, .pointer (some ⟨P, 0, none⟩), .pointer (some ⟨P + 1, 0, none⟩), u5, u6, .pointer (some ⟨E, 0, none⟩), u8, u9, .int .i64 NX, u11, u12, u13, u14, u15, u16, u17, u18, u19, u20, u21, u22, u23, u24, u25, u26, u27, u28, u29, u30, u31, u32, u33, u34, u35, u36, u37, u38, u39, u40, u41, u42, u43, u44, u45, u46, u47, u48, u49, u50, u51, u52, u53, u54, u55, u56, u57, u58, u59, u60, u61, u62, u63, u64, u65, u66, u67, u68, u69, u70, u71, u72, u73, u74, u75, u76, u77, u78, u79, u80, u81, u82, u83, u84, u85, u86, u87, u88, u89, u90, u91, u92, u93, u94, u95, u96, u97, u98, u99, u100, u101, u102, u103, u104, u105, u106, u107, u108, u109, u110, u111, u112, u113, u114, u115, u116, u117, u118, u119, u120, u121, u122, u123, u124, u125, u126, u127, u128, u129, u130, u131, u132, u133, u134, u135, u136, u137, u138, u139, u140, u141, u142, u143, u144, u145, u146, u147, u148, u149, u150, u151, u152, u153, u154, u155, u156], []⟩ y8 := by
  unfold opsAt Tryz.f46 at hops
  injection hops with hops
  subst hops
  have lE8 := KE8.out.lt
  have lP8 := KP8.out.lt
  have bf := Below.refl y8.heap.size y8
  have KF := Lib.hid (fun w' (hb : Below y8.heap.size y8 w') => (show w'.cell? ⟨E, 0, none⟩ = some (.string (bs e3.name)) ∧ w'.cell? ⟨E, 1, none⟩ = some (.int .u8 e3.kind) ∧ w'.cell? ⟨E, 2, none⟩ = some (.int .i64 e3.mode) ∧ w'.cell? ⟨E, 3, none⟩ = some (.int .i64 e3.uid) ∧ w'.cell? ⟨E, 4, none⟩ = some (.int .i64 e3.gid) ∧ w'.cell? ⟨E, 5, none⟩ = some (.int .i64 e3.size) ∧ w'.cell? ⟨E, 6, none⟩ = some (.int .i64 e3.sec) ∧ w'.cell? ⟨E, 7, none⟩ = some (.int .i64 e3.nano) ∧ w'.cell? ⟨E, 8, none⟩ = some (.string (bs e3.link)) ∧ w'.cell? ⟨E, 9, none⟩ = some (.string (bs e3.user)) ∧ w'.cell? ⟨E, 10, none⟩ = some (.string (bs e3.group)) ∧ w'.cell? ⟨E, 11, none⟩ = some (.int .i64 e3.major) ∧ w'.cell? ⟨E, 12, none⟩ = some (.int .i64 e3.minor) ∧ w'.cell? ⟨E, 13, none⟩ = some (.string (bs e3.data)) ∧ w'.cell? ⟨E, 14, none⟩ = some (.slice none 0 0) ∧ w'.cell? ⟨P, 9, none⟩ = some (.int .i64 a9) from ⟨(KE8.out.below hb lE8).cell 0, (KE8.out.below hb lE8).cell 1, (KE8.out.below hb lE8).cell 2, (KE8.out.below hb lE8).cell 3, (KE8.out.below hb lE8).cell 4, (KE8.out.below hb lE8).cell 5, (KE8.out.below hb lE8).cell 6, (KE8.out.below hb lE8).cell 7, (KE8.out.below hb lE8).cell 8, (KE8.out.below hb lE8).cell 9, (KE8.out.below hb lE8).cell 10, (KE8.out.below hb lE8).cell 11, (KE8.out.below hb lE8).cell 12, (KE8.out.below hb lE8).cell 13, (KE8.out.below hb lE8).cell 14, (KP8.out.below hb lP8).cell 9⟩))
  refine wp_region_held_drew (S := fun w' => w'.cell? ⟨E, 0, none⟩ = some (.string (bs e3.name)) ∧ w'.cell? ⟨E, 1, none⟩ = some (.int .u8 e3.kind) ∧ w'.cell? ⟨E, 2, none⟩ = some (.int .i64 e3.mode) ∧ w'.cell? ⟨E, 3, none⟩ = some (.int .i64 e3.uid) ∧ w'.cell? ⟨E, 4, none⟩ = some (.int .i64 e3.gid) ∧ w'.cell? ⟨E, 5, none⟩ = some (.int .i64 e3.size) ∧ w'.cell? ⟨E, 6, none⟩ = some (.int .i64 e3.sec) ∧ w'.cell? ⟨E, 7, none⟩ = some (.int .i64 e3.nano) ∧ w'.cell? ⟨E, 8, none⟩ = some (.string (bs e3.link)) ∧ w'.cell? ⟨E, 9, none⟩ = some (.string (bs e3.user)) ∧ w'.cell? ⟨E, 10, none⟩ = some (.string (bs e3.group)) ∧ w'.cell? ⟨E, 11, none⟩ = some (.int .i64 e3.major) ∧ w'.cell? ⟨E, 12, none⟩ = some (.int .i64 e3.minor) ∧ w'.cell? ⟨E, 13, none⟩ = some (.string (bs e3.data)) ∧ w'.cell? ⟨E, 14, none⟩ = some (.slice none 0 0) ∧ w'.cell? ⟨P, 9, none⟩ = some (.int .i64 a9)) (by kernel_rfl) (KF.out _ (Below.drew bf)) (fun hHeld => ?_)
  refine wpAnyH_takeD (i := 0) (d := 148) (listed' := #[true, false, false, false, false, false, false, false, false, false, false, false]) (v := ?_) rfl (by kernel_rfl) (by kernel_rfl) (by kernel_rfl) (by kernel_rfl) (by kernel_rfl) (fun _ _ _ h => hQp _ _ _ _ _ h) (Or.inl ⟨by kernel_rfl, ?_⟩) (by assumption) ?_; rotate_left; (focus (intro w hSw; (try dsimp only at hSw); go_simp; (try with_reducible rfl))); (try simp only [List.foldl_cons, List.foldl_nil, Act.put, List.setIfInBounds_toArray, List.set_cons_zero, List.set_cons_succ])
  refine wpAnyH_takeD (i := 1) (d := 149) (listed' := #[true, true, false, false, false, false, false, false, false, false, false, false]) (v := ?_) rfl (by kernel_rfl) (by kernel_rfl) (by kernel_rfl) (by kernel_rfl) (by kernel_rfl) (fun _ _ _ h => hQp _ _ _ _ _ h) (Or.inl ⟨by kernel_rfl, ?_⟩) (by assumption) ?_; rotate_left; (focus (intro w hSw; (try dsimp only at hSw); go_simp; (try with_reducible rfl))); (try simp only [List.foldl_cons, List.foldl_nil, Act.put, List.setIfInBounds_toArray, List.set_cons_zero, List.set_cons_succ])
  refine wpAnyH_takeD (i := 2) (d := 150) (listed' := #[true, true, true, false, false, false, false, false, false, false, false, false]) (v := ?_) rfl (by kernel_rfl) (by kernel_rfl) (by kernel_rfl) (by kernel_rfl) (by kernel_rfl) (fun _ _ _ h => hQp _ _ _ _ _ h) (Or.inl ⟨by kernel_rfl, ?_⟩) (by assumption) ?_; rotate_left; (focus (intro w hSw; (try dsimp only at hSw); go_simp; (try with_reducible rfl))); (try simp only [List.foldl_cons, List.foldl_nil, Act.put, List.setIfInBounds_toArray, List.set_cons_zero, List.set_cons_succ])
  refine wpAnyH_takeD (i := 3) (d := 151) (listed' := #[true, true, true, true, false, false, false, false, false, false, false, false]) (v := ?_) rfl (by kernel_rfl) (by kernel_rfl) (by kernel_rfl) (by kernel_rfl) (by kernel_rfl) (fun _ _ _ h => hQp _ _ _ _ _ h) (Or.inl ⟨by kernel_rfl, ?_⟩) (by assumption) ?_; rotate_left; (focus (intro w hSw; (try dsimp only at hSw); go_simp; (try with_reducible rfl))); (try simp only [List.foldl_cons, List.foldl_nil, Act.put, List.setIfInBounds_toArray, List.set_cons_zero, List.set_cons_succ])
  refine wpAnyH_takeD (i := 4) (d := 152) (listed' := #[true, true, true, true, true, false, false, false, false, false, false, false]) (v := ?_) rfl (by kernel_rfl) (by kernel_rfl) (by kernel_rfl) (by kernel_rfl) (by kernel_rfl) (fun _ _ _ h => hQp _ _ _ _ _ h) (Or.inl ⟨by kernel_rfl, ?_⟩) (by assumption) ?_; rotate_left; (focus (intro w hSw; (try dsimp only at hSw); go_simp; (try with_reducible rfl))); (try simp only [List.foldl_cons, List.foldl_nil, Act.put, List.setIfInBounds_toArray, List.set_cons_zero, List.set_cons_succ])
  refine wpAnyH_takeD (i := 5) (d := 153) (listed' := #[true, true, true, true, true, true, false, false, false, false, false, false]) (v := ?_) rfl (by kernel_rfl) (by kernel_rfl) (by kernel_rfl) (by kernel_rfl) (by kernel_rfl) (fun _ _ _ h => hQp _ _ _ _ _ h) (Or.inl ⟨by kernel_rfl, ?_⟩) (by assumption) ?_; rotate_left; (focus (intro w hSw; (try dsimp only at hSw); go_simp; (try with_reducible rfl))); (try simp only [List.foldl_cons, List.foldl_nil, Act.put, List.setIfInBounds_toArray, List.set_cons_zero, List.set_cons_succ])
  refine wpAnyH_takeD (i := 6) (d := 154) (listed' := #[true, true, true, true, true, true, true, false, false, false, false, false]) (v := ?_) rfl (by kernel_rfl) (by kernel_rfl) (by kernel_rfl) (by kernel_rfl) (by kernel_rfl) (fun _ _ _ h => hQp _ _ _ _ _ h) (Or.inl ⟨by kernel_rfl, ?_⟩) (by assumption) ?_; rotate_left; (focus (intro w hSw; (try dsimp only at hSw); go_simp; (try with_reducible rfl))); (try simp only [List.foldl_cons, List.foldl_nil, Act.put, List.setIfInBounds_toArray, List.set_cons_zero, List.set_cons_succ])
  obtain ⟨x0, hx0⟩ : ∃ x, x = y8.drew := ⟨_, rfl⟩
  have BD := Lib.hid (show Below y8.heap.size y8 x0 by rw [hx0]; exact Below.drew bf)
  rw [← hx0]
  clear hx0 hHeld
  refine wpAnyH_ready (rs := [7]) (by kernel_rfl) (by simp) ?_
  refine AllReadyH.cons rfl (fun K hK => ?_) AllReadyH.nil
  go_simp
  refine (PDC.out _).mono ?_
  rintro rr x1 ⟨rfl, hw1⟩
  rw [hw1]
  clear hw1
  refine hK.out _ _ (KF.out _ BD.out) (fun hHeld1 => ?_)
  clear hK K
  (try simp only [List.foldl_cons, List.foldl_nil, Act.put, List.setIfInBounds_toArray, List.set_cons_zero, List.set_cons_succ])
  refine wpAnyH_takeD (i := 8) (d := 156) (listed' := #[true, true, true, true, true, true, true, true, true, false, false, false]) (v := ?_) rfl (by kernel_rfl) (by kernel_rfl) (by kernel_rfl) (by kernel_rfl) (by kernel_rfl) (fun _ _ _ h => hQp _ _ _ _ _ h) (Or.inl ⟨by kernel_rfl, ?_⟩) (by assumption) ?_; rotate_left; (focus (intro w hSw; (try dsimp only at hSw); go_simp; (try with_reducible rfl))); (try simp only [List.foldl_cons, List.foldl_nil, Act.put, List.setIfInBounds_toArray, List.set_cons_zero, List.set_cons_succ])
  refine wpAnyH_ready (rs := [9]) (by kernel_rfl) (by simp) ?_
  refine AllReadyH.cons rfl (fun K hK => ?_) AllReadyH.nil
  have KQx := Lib.hid (KQ8.out.below BD.out KQ8.out.lt)
  have KEx := Lib.hid (KE8.out.below BD.out KE8.out.lt)
  have KPx := Lib.hid (KP8.out.below BD.out KP8.out.lt)
  have d0 := KQx.out.cell 0
  have g0 := KQx.out.frozen 0
  have d1 := KQx.out.cell 1
  have g1 := KQx.out.frozen 1
  have d2 := KQx.out.cell 2
  have g2 := KQx.out.frozen 2
  have d3 := KQx.out.cell 3
  have g3 := KQx.out.frozen 3
  have d4 := KQx.out.cell 4
  have g4 := KQx.out.frozen 4
  have d5 := KQx.out.cell 5
  have g5 := KQx.out.frozen 5
  have d6 := KQx.out.cell 6
  have g6 := KQx.out.frozen 6
  have d7 := KQx.out.cell 7
  have g7 := KQx.out.frozen 7
  have d8 := KQx.out.cell 8
  have g8 := KQx.out.frozen 8
  have d9 := KQx.out.cell 9
  have g9 := KQx.out.frozen 9
  have d10 := KQx.out.cell 10
  have g10 := KQx.out.frozen 10
  have d11 := KQx.out.cell 11
  have g11 := KQx.out.frozen 11
  have d12 := KQx.out.cell 12
  have g12 := KQx.out.frozen 12
  have d13 := KQx.out.cell 13
  have g13 := KQx.out.frozen 13
  have d14 := KQx.out.cell 14
  have g14 := KQx.out.frozen 14
  have lQ := KQx.out.lt
  go_simp
  have hX := set15 KQx.out (.string (bs e3.name)) (.int .u8 e3.kind) (.int .i64 e3.mode) (.int .i64 e3.uid) (.int .i64 e3.gid) (.int .i64 e3.size) (.int .i64 e3.sec) (.int .i64 e3.nano) (.string (bs e3.link)) (.string (bs e3.user)) (.string (bs e3.group)) (.int .i64 e3.major) (.int .i64 e3.minor) (.string (bs e3.data)) (.slice none 0 0)
  have hkX := ((((((((((((((((KeepE.refl (P + 1) x0.heap.size x0).set_ 0 (.string (bs e3.name))).set_ 1 (.int .u8 e3.kind)).set_ 2 (.int .i64 e3.mode)).set_ 3 (.int .i64 e3.uid)).set_ 4 (.int .i64 e3.gid)).set_ 5 (.int .i64 e3.size)).set_ 6 (.int .i64 e3.sec)).set_ 7 (.int .i64 e3.nano)).set_ 8 (.string (bs e3.link))).set_ 9 (.string (bs e3.user))).set_ 10 (.string (bs e3.group))).set_ 11 (.int .i64 e3.major)).set_ 12 (.int .i64 e3.minor)).set_ 13 (.string (bs e3.data))).set_ 14 (.slice none 0 0))
  generalize hX0 : World.setCell _ ⟨P + 1, 14, none⟩ (.slice none 0 0) = X at hX hkX ⊢
  have hEX := KEx.out.keepE hkX KEx.out.lt hEP
  have hPX := KPx.out.keepE hkX KPx.out.lt (by omega)
  refine hK.out _ _ ⟨hEX.cell 0, hEX.cell 1, hEX.cell 2, hEX.cell 3, hEX.cell 4, hEX.cell 5, hEX.cell 6, hEX.cell 7, hEX.cell 8, hEX.cell 9, hEX.cell 10, hEX.cell 11, hEX.cell 12, hEX.cell 13, hEX.cell 14, hPX.cell 9⟩ (fun hHeldZ => ?_)
  clear hK K hHeld1
  (try simp only [List.foldl_cons, List.foldl_nil, Act.put, List.setIfInBounds_toArray, List.set_cons_zero, List.set_cons_succ])
  refine wpAnyH_takeD (i := 10) (d := 5) (listed' := #[true, true, true, true, true, true, true, true, true, true, true, false]) (v := ?_) rfl (by kernel_rfl) (by kernel_rfl) (by kernel_rfl) (by kernel_rfl) (by kernel_rfl) (fun _ _ _ h => hQp _ _ _ _ _ h) (Or.inl ⟨by kernel_rfl, ?_⟩) (by assumption) ?_; rotate_left; (focus (intro w hSw; (try dsimp only at hSw); go_simp; (try with_reducible rfl))); (try simp only [List.foldl_cons, List.foldl_nil, Act.put, List.setIfInBounds_toArray, List.set_cons_zero, List.set_cons_succ])
  refine wpAnyH_takeD (i := 11) (d := 6) (listed' := #[true, true, true, true, true, true, true, true, true, true, true, true]) (v := ?_) rfl (by kernel_rfl) (by kernel_rfl) (by kernel_rfl) (by kernel_rfl) (by kernel_rfl) (fun _ _ _ h => hQp _ _ _ _ _ h) (Or.inl ⟨by kernel_rfl, ?_⟩) (by assumption) ?_; rotate_left; (focus (intro w hSw; (try dsimp only at hSw); go_simp; (try with_reducible rfl))); (try simp only [List.foldl_cons, List.foldl_nil, Act.put, List.setIfInBounds_toArray, List.set_cons_zero, List.set_cons_succ])
  refine wpAnyH_done (by kernel_rfl) ?_ _
  exact hQ _ _ _ _ _ _ _ _ _ _ hX ((KeepE.of BD.out).step hkX BD.out.size)

set_option maxRecDepth 100000 in
set_option maxHeartbeats 8000000 in
theorem mb_r29 {y5 : World} {E : Nat} {e4 e3 : Ent} (KE5 : Hid (Blk y5 E 26 (evc e4 (.slice none 0 0)))) (STC : Hid (∀ w, Calls Tryz.prog 94 #[ev e4 (.slice none 0 0)] w fun r w' => r = .returned (ev e3 (.slice none 0 0)) ∧ Below w.heap.size w w'))
    {ops : Array Oper} (hops : opsAt Tryz.f46 29 = some ops) {Q : Exit → Act → World → Prop} {u0 u1 u2 u3 u4 u5 u6 u8 u9 u10 u11 u12 u13 u14 u15 u16 u17 u18 u19 u20 u21 u22 u23 u24 u25 u26 u27 u28 u29 u30 u31 u32 u33 u34 u35 u36 u37 u38 u39 u40 u41 u42 u43 u44 u45 u46 u47 u48 u49 u50 u51 u52 u53 u54 u55 u56 u57 u58 u59 u60 u61 u62 u63 u64 u65 u66 u67 u68 u69 u70 u71 u72 u73 u74 u75 u76 u77 u78 u79 u80 u81 u82 u83 u84 u85 u86 u87 u88 u89 u90 u91 u92 u93 u94 u95 u96 u97 u98 u99 u100 u101 u102 u103 u104 u105 u106 u107 u108 u109 u110 u111 u112 u113 u114 u115 u116 u117 u118 u119 u120 u121 u122 u123 u124 u125 u126 u127 u128 u129 u130 u131 u132 u133 u134 u135 u136 u137 u138 u139 u140 u141 u142 u143 u144 u145 u146 u147 u148 u149 u150 u151 u152 u153 u154 u155 u156 : Value}
    (hQ : ∀ (X : World) (v141 v142 : Value), Blk X E 26 (evc e3 (.slice none 0 0)) → KeepE E y5.heap.size y5 X → Q .normal ⟨#[u0, u1, u2, u3, u4, u5, u6, .pointer (some ⟨E, 0, none⟩), u8, u9, u10, u11, u12, u13, u14, u15, u16, u17, u18, u19, u20, u21, u22, u23, u24, u25, u26, u27, u28, u29, u30, u31, u32, u33, u34, u35, u36, u37, u38, u39, u40, u41, u42, u43, u44, u45, u46, u47, u48, u49, u50, u51, u52, u53, u54, u55, u56, u57, u58, u59, u60, u61, u62, u63, u64, u65, u66, u67, u68, u69, u70, u71, u72, u73, u74, u75, u76, u77, u78, u79, u80, u81, u82, u83, u84, u85, u86, u87, u88, u89, u90, u91, u92, u93, u94, u95, u96, u97, u98, u99, u100, u101, u102, u103, u104, u105, u106, u107, u108, u109, u110, u111, u112, u113, u114, u115, u116, u117, u118, u119, u120, u121, u122, u123, u124, u125, u126, u127, u128, u129, u130, u131, u132, u133, u134, u135, u136, u137, u138, u139, u140, v141, v142, u143, u144, u145, u146, u147, u148, u149, u150, u151, u152, u153, u154, u155, u156], []⟩ X) :
    Code.wp Tryz.prog (.region 29 ops false) Q ⟨#[u0, u1, u2, u3, u4, u5, u6, .pointer (some ⟨E, 0, none⟩), u8, u9, u10, u11, u12, u13, u14, u15, u16, u17, u18, u19, u20, u21, u22, u23, u24, u25, u26, u27, u28, u29, u30, u31, u32, u33, u34, u35, u36, u37, u38, u39, u40, u41, u42, u43, u44, u45, u46, u47, u48, u49, u50, u51, u52, u53, u54, u55, u56, u57, u58, u59, u60, u61, u62, u63, u64, u65, u66, u67, u68, u69, u70, u71, u72, u73, u74, u75, u76, u77, u78, u79, u80, u81, u82, u83, u84, u85, u86, u87, u88, u89, u90, u91, u92, u93, u94, u95, u96, u97, u98, u99, u100, u101, u102, u103, u104, u105, u106, u107, u108, u109, u110, u111, u112, u113, u114, u115, u116, u117, u118, u119, u120, u121, u122, u123, u124, u125, u126, u127, u128, u129, u130, u131, u132, u133, u134, u135, u136, u137, u138, u139, u140, u141, u142, u143, u144, u145, u146, u147, u148, u149, u150, u151, u152, u153, u154, u155, u156], []⟩ y5 := by
  unfold opsAt Tryz.f46 at hops
  injection hops with hops
  subst hops
  have HQ := Lib.hid hQ
  clear hQ
  unfold ev evc at STC
  have lE := KE5.out.lt
  have c0 : y5.cell? ⟨E, 0, none⟩ = some (.string (bs e4.name)) := KE5.out.cell 0
  have c1 : y5.cell? ⟨E, 1, none⟩ = some (.int .u8 e4.kind) := KE5.out.cell 1
  have c2 : y5.cell? ⟨E, 2, none⟩ = some (.int .i64 e4.mode) := KE5.out.cell 2
  have c3 : y5.cell? ⟨E, 3, none⟩ = some (.int .i64 e4.uid) := KE5.out.cell 3
  have c4 : y5.cell? ⟨E, 4, none⟩ = some (.int .i64 e4.gid) := KE5.out.cell 4
  have c5 : y5.cell? ⟨E, 5, none⟩ = some (.int .i64 e4.size) := KE5.out.cell 5
  have c6 : y5.cell? ⟨E, 6, none⟩ = some (.int .i64 e4.sec) := KE5.out.cell 6
  have c7 : y5.cell? ⟨E, 7, none⟩ = some (.int .i64 e4.nano) := KE5.out.cell 7
  have c8 : y5.cell? ⟨E, 8, none⟩ = some (.string (bs e4.link)) := KE5.out.cell 8
  have c9 : y5.cell? ⟨E, 9, none⟩ = some (.string (bs e4.user)) := KE5.out.cell 9
  have c10 : y5.cell? ⟨E, 10, none⟩ = some (.string (bs e4.group)) := KE5.out.cell 10
  have c11 : y5.cell? ⟨E, 11, none⟩ = some (.int .i64 e4.major) := KE5.out.cell 11
  have c12 : y5.cell? ⟨E, 12, none⟩ = some (.int .i64 e4.minor) := KE5.out.cell 12
  have c13 : y5.cell? ⟨E, 13, none⟩ = some (.string (bs e4.data)) := KE5.out.cell 13
  have c14 : y5.cell? ⟨E, 14, none⟩ = some (.slice none 0 0) := KE5.out.cell 14
  go_wp2_with fail
  refine (STC.out _).mono ?_
  rintro rr y6 ⟨rfl, hy6⟩
  have KE6 := Lib.hid (KE5.out.below hy6 KE5.out.lt)
  have HY := Lib.hid hy6
  clear hy6 STC lE c0 c1 c2 c3 c4 c5 c6 c7 c8 c9 c10 c11 c12 c13 c14
  have lE := KE6.out.lt
  have c0 : y6.cell? ⟨E, 0, none⟩ = some (.string (bs e4.name)) := KE6.out.cell 0
  have f0 := KE6.out.frozen 0
  have c1 : y6.cell? ⟨E, 1, none⟩ = some (.int .u8 e4.kind) := KE6.out.cell 1
  have f1 := KE6.out.frozen 1
  have c2 : y6.cell? ⟨E, 2, none⟩ = some (.int .i64 e4.mode) := KE6.out.cell 2
  have f2 := KE6.out.frozen 2
  have c3 : y6.cell? ⟨E, 3, none⟩ = some (.int .i64 e4.uid) := KE6.out.cell 3
  have f3 := KE6.out.frozen 3
  have c4 : y6.cell? ⟨E, 4, none⟩ = some (.int .i64 e4.gid) := KE6.out.cell 4
  have f4 := KE6.out.frozen 4
  have c5 : y6.cell? ⟨E, 5, none⟩ = some (.int .i64 e4.size) := KE6.out.cell 5
  have f5 := KE6.out.frozen 5
  have c6 : y6.cell? ⟨E, 6, none⟩ = some (.int .i64 e4.sec) := KE6.out.cell 6
  have f6 := KE6.out.frozen 6
  have c7 : y6.cell? ⟨E, 7, none⟩ = some (.int .i64 e4.nano) := KE6.out.cell 7
  have f7 := KE6.out.frozen 7
  have c8 : y6.cell? ⟨E, 8, none⟩ = some (.string (bs e4.link)) := KE6.out.cell 8
  have f8 := KE6.out.frozen 8
  have c9 : y6.cell? ⟨E, 9, none⟩ = some (.string (bs e4.user)) := KE6.out.cell 9
  have f9 := KE6.out.frozen 9
  have c10 : y6.cell? ⟨E, 10, none⟩ = some (.string (bs e4.group)) := KE6.out.cell 10
  have f10 := KE6.out.frozen 10
  have c11 : y6.cell? ⟨E, 11, none⟩ = some (.int .i64 e4.major) := KE6.out.cell 11
  have f11 := KE6.out.frozen 11
  have c12 : y6.cell? ⟨E, 12, none⟩ = some (.int .i64 e4.minor) := KE6.out.cell 12
  have f12 := KE6.out.frozen 12
  have c13 : y6.cell? ⟨E, 13, none⟩ = some (.string (bs e4.data)) := KE6.out.cell 13
  have f13 := KE6.out.frozen 13
  have c14 : y6.cell? ⟨E, 14, none⟩ = some (.slice none 0 0) := KE6.out.cell 14
  have f14 := KE6.out.frozen 14
  go_wp2_with fail
  have hX := set15 KE6.out (.string (bs e3.name)) (.int .u8 e3.kind) (.int .i64 e3.mode) (.int .i64 e3.uid) (.int .i64 e3.gid) (.int .i64 e3.size) (.int .i64 e3.sec) (.int .i64 e3.nano) (.string (bs e3.link)) (.string (bs e3.user)) (.string (bs e3.group)) (.int .i64 e3.major) (.int .i64 e3.minor) (.string (bs e3.data)) (.slice none 0 0)
  have hkX := ((((((((((((((((KeepE.refl E y6.heap.size y6).set_ 0 (.string (bs e3.name))).set_ 1 (.int .u8 e3.kind)).set_ 2 (.int .i64 e3.mode)).set_ 3 (.int .i64 e3.uid)).set_ 4 (.int .i64 e3.gid)).set_ 5 (.int .i64 e3.size)).set_ 6 (.int .i64 e3.sec)).set_ 7 (.int .i64 e3.nano)).set_ 8 (.string (bs e3.link))).set_ 9 (.string (bs e3.user))).set_ 10 (.string (bs e3.group))).set_ 11 (.int .i64 e3.major)).set_ 12 (.int .i64 e3.minor)).set_ 13 (.string (bs e3.data))).set_ 14 (.slice none 0 0))
  exact HQ.out _ _ _ hX ((KeepE.of HY.out).step hkX HY.out.size)

set_option maxRecDepth 100000 in
set_option maxHeartbeats 8000000 in
theorem mb_r30 {y7 : World} {E : Nat} {e3 : Ent} {RE3 : Bool} (KE7 : Hid (Blk y7 E 26 (evc e3 (.slice none 0 0)))) (RIC : Hid (Calls Tryz.prog 21 #[ev e3 (.slice none 0 0)] y7 fun r w' => r = .returned (.bool RE3) ∧ Below y7.heap.size y7 w'))
    {ops : Array Oper} (hops : opsAt Tryz.f46 30 = some ops) {Q : Exit → Act → World → Prop} {u0 u1 u2 u3 u4 u5 u6 u8 u9 u10 u11 u12 u13 u14 u15 u16 u17 u18 u19 u20 u21 u22 u23 u24 u25 u26 u27 u28 u29 u30 u31 u32 u33 u34 u35 u36 u37 u38 u39 u40 u41 u42 u43 u44 u45 u46 u47 u48 u49 u50 u51 u52 u53 u54 u55 u56 u57 u58 u59 u60 u61 u62 u63 u64 u65 u66 u67 u68 u69 u70 u71 u72 u73 u74 u75 u76 u77 u78 u79 u80 u81 u82 u83 u84 u85 u86 u87 u88 u89 u90 u91 u92 u93 u94 u95 u96 u97 u98 u99 u100 u101 u102 u103 u104 u105 u106 u107 u108 u109 u110 u111 u112 u113 u114 u115 u116 u117 u118 u119 u120 u121 u122 u123 u124 u125 u126 u127 u128 u129 u130 u131 u132 u133 u134 u135 u136 u137 u138 u139 u140 u141 u142 u143 u144 u145 u146 u147 u148 u149 u150 u151 u152 u153 u154 u155 u156 : Value}
    (hQ : ∀ (X : World) (v143 v144 : Value), Below y7.heap.size y7 X → Q .normal ⟨#[u0, u1, u2, u3, u4, u5, u6, .pointer (some ⟨E, 0, none⟩), u8, u9, u10, u11, u12, u13, u14, u15, u16, u17, u18, u19, u20, u21, u22, u23, u24, u25, u26, u27, u28, u29, u30, u31, u32, u33, u34, u35, u36, u37, u38, u39, u40, u41, u42, u43, u44, u45, u46, u47, u48, u49, u50, u51, u52, u53, u54, u55, u56, u57, u58, u59, u60, u61, u62, u63, u64, u65, u66, u67, u68, u69, u70, u71, u72, u73, u74, u75, u76, u77, u78, u79, u80, u81, u82, u83, u84, u85, u86, u87, u88, u89, u90, u91, u92, u93, u94, u95, u96, u97, u98, u99, u100, u101, u102, u103, u104, u105, u106, u107, u108, u109, u110, u111, u112, u113, u114, u115, u116, u117, u118, u119, u120, u121, u122, u123, u124, u125, u126, u127, u128, u129, u130, u131, u132, u133, u134, u135, u136, u137, u138, u139, u140, u141, u142, v143, v144, .bool (!RE3), u146, u147, u148, u149, u150, u151, u152, u153, u154, u155, u156], []⟩ X) :
    Code.wp Tryz.prog (.region 30 ops false) Q ⟨#[u0, u1, u2, u3, u4, u5, u6, .pointer (some ⟨E, 0, none⟩), u8, u9, u10, u11, u12, u13, u14, u15, u16, u17, u18, u19, u20, u21, u22, u23, u24, u25, u26, u27, u28, u29, u30, u31, u32, u33, u34, u35, u36, u37, u38, u39, u40, u41, u42, u43, u44, u45, u46, u47, u48, u49, u50, u51, u52, u53, u54, u55, u56, u57, u58, u59, u60, u61, u62, u63, u64, u65, u66, u67, u68, u69, u70, u71, u72, u73, u74, u75, u76, u77, u78, u79, u80, u81, u82, u83, u84, u85, u86, u87, u88, u89, u90, u91, u92, u93, u94, u95, u96, u97, u98, u99, u100, u101, u102, u103, u104, u105, u106, u107, u108, u109, u110, u111, u112, u113, u114, u115, u116, u117, u118, u119, u120, u121, u122, u123, u124, u125, u126, u127, u128, u129, u130, u131, u132, u133, u134, u135, u136, u137, u138, u139, u140, u141, u142, u143, u144, u145, u146, u147, u148, u149, u150, u151, u152, u153, u154, u155, u156], []⟩ y7 := by
  unfold opsAt Tryz.f46 at hops
  injection hops with hops
  subst hops
  have HQ := Lib.hid hQ
  clear hQ
  unfold ev evc at RIC
  have lE := KE7.out.lt
  have c0 : y7.cell? ⟨E, 0, none⟩ = some (.string (bs e3.name)) := KE7.out.cell 0
  have c1 : y7.cell? ⟨E, 1, none⟩ = some (.int .u8 e3.kind) := KE7.out.cell 1
  have c2 : y7.cell? ⟨E, 2, none⟩ = some (.int .i64 e3.mode) := KE7.out.cell 2
  have c3 : y7.cell? ⟨E, 3, none⟩ = some (.int .i64 e3.uid) := KE7.out.cell 3
  have c4 : y7.cell? ⟨E, 4, none⟩ = some (.int .i64 e3.gid) := KE7.out.cell 4
  have c5 : y7.cell? ⟨E, 5, none⟩ = some (.int .i64 e3.size) := KE7.out.cell 5
  have c6 : y7.cell? ⟨E, 6, none⟩ = some (.int .i64 e3.sec) := KE7.out.cell 6
  have c7 : y7.cell? ⟨E, 7, none⟩ = some (.int .i64 e3.nano) := KE7.out.cell 7
  have c8 : y7.cell? ⟨E, 8, none⟩ = some (.string (bs e3.link)) := KE7.out.cell 8
  have c9 : y7.cell? ⟨E, 9, none⟩ = some (.string (bs e3.user)) := KE7.out.cell 9
  have c10 : y7.cell? ⟨E, 10, none⟩ = some (.string (bs e3.group)) := KE7.out.cell 10
  have c11 : y7.cell? ⟨E, 11, none⟩ = some (.int .i64 e3.major) := KE7.out.cell 11
  have c12 : y7.cell? ⟨E, 12, none⟩ = some (.int .i64 e3.minor) := KE7.out.cell 12
  have c13 : y7.cell? ⟨E, 13, none⟩ = some (.string (bs e3.data)) := KE7.out.cell 13
  have c14 : y7.cell? ⟨E, 14, none⟩ = some (.slice none 0 0) := KE7.out.cell 14
  go_wp2_with fail
  refine RIC.out.mono ?_
  rintro rr y8 ⟨rfl, hy8⟩
  go_wp2_with fail
  exact HQ.out _ _ _ hy8

set_option maxRecDepth 100000 in
set_option maxHeartbeats 8000000 in
theorem mb_r31 {y8 : World} {P : Nat} (KQ8 : Hid (Blk y8 (P + 1) 26 #[.string ⟨#[]⟩, .int .u8 0, .int .i64 0, .int .i64 0, .int .i64 0, .int .i64 0, .int .i64 0, .int .i64 0, .string ⟨#[]⟩, .string ⟨#[]⟩, .string ⟨#[]⟩, .int .i64 0, .int .i64 0, .string ⟨#[]⟩, .slice none 0 0]))
    {ops : Array Oper} (hops : opsAt Tryz.f46 31 = some ops) {Q : Exit → Act → World → Prop} {u0 u1 u2 u3 u5 u6 u7 u8 u9 u10 u11 u12 u13 u14 u15 u16 u17 u18 u19 u20 u21 u22 u23 u24 u25 u26 u27 u28 u29 u30 u31 u32 u33 u34 u35 u36 u37 u38 u39 u40 u41 u42 u43 u44 u45 u46 u47 u48 u49 u50 u51 u52 u53 u54 u55 u56 u57 u58 u59 u60 u61 u62 u63 u64 u65 u66 u67 u68 u69 u70 u71 u72 u73 u74 u75 u76 u77 u78 u79 u80 u81 u82 u83 u84 u85 u86 u87 u88 u89 u90 u91 u92 u93 u94 u95 u96 u97 u98 u99 u100 u101 u102 u103 u104 u105 u106 u107 u108 u109 u110 u111 u112 u113 u114 u115 u116 u117 u118 u119 u120 u121 u122 u123 u124 u125 u126 u127 u128 u129 u130 u131 u132 u133 u134 u135 u136 u137 u138 u139 u140 u141 u142 u143 u144 u145 u146 u147 u148 u149 u150 u151 u152 u153 u154 u155 u156 : Value}
    (hQ : ∀ (X : World) (v146 v147 : Value), Blk X (P + 1) 26 #[.string ⟨#[]⟩, .int .u8 0, .int .i64 0, .int .i64 0, .int .i64 0, .int .i64 0, .int .i64 0, .int .i64 0, .string ⟨#[]⟩, .string ⟨#[]⟩, .string ⟨#[]⟩, .int .i64 0, .int .i64 0, .string ⟨#[]⟩, .slice none 0 0] → KeepE (P + 1) y8.heap.size y8 X → Q .normal ⟨#[u0, u1, u2, u3, .pointer (some ⟨P + 1, 0, none⟩), .int .i64 0, .iface 63 (.int .i64 1), u7, u8, u9, u10, u11, u12, u13, u14, u15, u16, u17, u18, u19, u20, u21, u22, u23, u24, u25, u26, u27, u28, u29, u30, u31, u32, u33, u34, u35, u36, u37, u38, u39, u40, u41, u42, u43, u44, u45, u46, u47, u48, u49, u50, u51, u52, u53, u54, u55, u56, u57, u58, u59, u60, u61, u62, u63, u64, u65, u66, u67, u68, u69, u70, u71, u72, u73, u74, u75, u76, u77, u78, u79, u80, u81, u82, u83, u84, u85, u86, u87, u88, u89, u90, u91, u92, u93, u94, u95, u96, u97, u98, u99, u100, u101, u102, u103, u104, u105, u106, u107, u108, u109, u110, u111, u112, u113, u114, u115, u116, u117, u118, u119, u120, u121, u122, u123, u124, u125, u126, u127, u128, u129, u130, u131, u132, u133, u134, u135, u136, u137, u138, u139, u140, u141, u142, u143, u144, u145, v146, v147, u148, u149, u150, u151, u152, u153, u154, u155, u156], []⟩ X) :
    Code.wp Tryz.prog (.region 31 ops false) Q ⟨#[u0, u1, u2, u3, .pointer (some ⟨P + 1, 0, none⟩), u5, u6, u7, u8, u9, u10, u11, u12, u13, u14, u15, u16, u17, u18, u19, u20, u21, u22, u23, u24, u25, u26, u27, u28, u29, u30, u31, u32, u33, u34, u35, u36, u37, u38, u39, u40, u41, u42, u43, u44, u45, u46, u47, u48, u49, u50, u51, u52, u53, u54, u55, u56, u57, u58, u59, u60, u61, u62, u63, u64, u65, u66, u67, u68, u69, u70, u71, u72, u73, u74, u75, u76, u77, u78, u79, u80, u81, u82, u83, u84, u85, u86, u87, u88, u89, u90, u91, u92, u93, u94, u95, u96, u97, u98, u99, u100, u101, u102, u103, u104, u105, u106, u107, u108, u109, u110, u111, u112, u113, u114, u115, u116, u117, u118, u119, u120, u121, u122, u123, u124, u125, u126, u127, u128, u129, u130, u131, u132, u133, u134, u135, u136, u137, u138, u139, u140, u141, u142, u143, u144, u145, u146, u147, u148, u149, u150, u151, u152, u153, u154, u155, u156], []⟩ y8 := by
  unfold opsAt Tryz.f46 at hops
  injection hops with hops
  subst hops
  have HQ := Lib.hid hQ
  clear hQ
  have lQ := KQ8.out.lt
  have c0 : y8.cell? ⟨P + 1, 0, none⟩ = some (.string ⟨#[]⟩) := KQ8.out.cell 0
  have f0 := KQ8.out.frozen 0
  have c1 : y8.cell? ⟨P + 1, 1, none⟩ = some (.int .u8 0) := KQ8.out.cell 1
  have f1 := KQ8.out.frozen 1
  have c2 : y8.cell? ⟨P + 1, 2, none⟩ = some (.int .i64 0) := KQ8.out.cell 2
  have f2 := KQ8.out.frozen 2
  have c3 : y8.cell? ⟨P + 1, 3, none⟩ = some (.int .i64 0) := KQ8.out.cell 3
  have f3 := KQ8.out.frozen 3
  have c4 : y8.cell? ⟨P + 1, 4, none⟩ = some (.int .i64 0) := KQ8.out.cell 4
  have f4 := KQ8.out.frozen 4
  have c5 : y8.cell? ⟨P + 1, 5, none⟩ = some (.int .i64 0) := KQ8.out.cell 5
  have f5 := KQ8.out.frozen 5
  have c6 : y8.cell? ⟨P + 1, 6, none⟩ = some (.int .i64 0) := KQ8.out.cell 6
  have f6 := KQ8.out.frozen 6
  have c7 : y8.cell? ⟨P + 1, 7, none⟩ = some (.int .i64 0) := KQ8.out.cell 7
  have f7 := KQ8.out.frozen 7
  have c8 : y8.cell? ⟨P + 1, 8, none⟩ = some (.string ⟨#[]⟩) := KQ8.out.cell 8
  have f8 := KQ8.out.frozen 8
  have c9 : y8.cell? ⟨P + 1, 9, none⟩ = some (.string ⟨#[]⟩) := KQ8.out.cell 9
  have f9 := KQ8.out.frozen 9
  have c10 : y8.cell? ⟨P + 1, 10, none⟩ = some (.string ⟨#[]⟩) := KQ8.out.cell 10
  have f10 := KQ8.out.frozen 10
  have c11 : y8.cell? ⟨P + 1, 11, none⟩ = some (.int .i64 0) := KQ8.out.cell 11
  have f11 := KQ8.out.frozen 11
  have c12 : y8.cell? ⟨P + 1, 12, none⟩ = some (.int .i64 0) := KQ8.out.cell 12
  have f12 := KQ8.out.frozen 12
  have c13 : y8.cell? ⟨P + 1, 13, none⟩ = some (.string ⟨#[]⟩) := KQ8.out.cell 13
  have f13 := KQ8.out.frozen 13
  have c14 : y8.cell? ⟨P + 1, 14, none⟩ = some (.slice none 0 0) := KQ8.out.cell 14
  have f14 := KQ8.out.frozen 14
  go_wp2_with fail
  have hX := set15 KQ8.out (.string ⟨#[]⟩) (.int .u8 0) (.int .i64 0) (.int .i64 0) (.int .i64 0) (.int .i64 0) (.int .i64 0) (.int .i64 0) (.string ⟨#[]⟩) (.string ⟨#[]⟩) (.string ⟨#[]⟩) (.int .i64 0) (.int .i64 0) (.string ⟨#[]⟩) (.slice none 0 0)
  have hkX := ((((((((((((((((KeepE.refl (P + 1) y8.heap.size y8).set_ 0 (.string ⟨#[]⟩)).set_ 1 (.int .u8 0)).set_ 2 (.int .i64 0)).set_ 3 (.int .i64 0)).set_ 4 (.int .i64 0)).set_ 5 (.int .i64 0)).set_ 6 (.int .i64 0)).set_ 7 (.int .i64 0)).set_ 8 (.string ⟨#[]⟩)).set_ 9 (.string ⟨#[]⟩)).set_ 10 (.string ⟨#[]⟩)).set_ 11 (.int .i64 0)).set_ 12 (.int .i64 0)).set_ 13 (.string ⟨#[]⟩)).set_ 14 (.slice none 0 0))
  exact HQ.out _ _ _ hX hkX

end Go.Proofs.YtkhkjacnoiopcaaGreatDoor
