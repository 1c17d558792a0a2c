/-
  api.Tell at nil and at an Errno: errors.As by its text, the model's entries for internal/reflectlite by closed facts (after the worked example Toyas).
-/
import Derived.Test.YtipajekehbpghaaGreatDoorZa
import Derived.LaidEql
import Derived.LaidSub
import Derived.LaidHandle
import Derived.Stop.Asserts
import Derived.RowKitTokens
import Derived.Test.YtipajekehbpghaaGreatDoorZl
import Derived.Test.YtipajekehbpghaaGreatDoorZb
import Derived.Deep.Slices
import Derived.Test.YtipajekehbpghaaGreatDoorZi
import Derived.Test.YtipajekehbpghaaGreatDoorZf
set_option linter.unusedVariables false
set_option linter.unusedSimpArgs false

namespace Go.Proofs.YtipajekehbpghaaGreatDoor
open Go.RowKit Go.Extern.Stop Go.Stop Go.Extern

/-- The cell of errors.errorType. -/
def ErrT (w : World) : Prop := w.cell? ⟨0, 0, none⟩ = some (.iface 200 (.agg #[.pointer (some ⟨4, 35, none⟩)]))

theorem ErrT.lt {w : World} (h : ErrT w) : 0 < w.heap.size := by
  rcases Nat.lt_or_ge 0 w.heap.size with h1 | h1
  · exact h1
  · unfold ErrT at h; simp [World.cell?, Array.getElem?_eq_none h1] at h
theorem ErrT.below {w w' : World} (h : ErrT w) (hb : Below w.heap.size w w') : ErrT w' := (hb.cell (p := ⟨0, 0, none⟩) h.lt).trans h

theorem rt_no : (Tryz.prog.cutTypes.find? (·.1 == "internal/reflectlite.rtype")).map (·.2) = some 200 := by kernel_rfl
theorem errT_no : Tryz.prog.globalNamed "errors.errorType" = some 0 := by kernel_rfl
theorem errT_row : ((List.range 255).filter fun t => Tryz.prog.rowNamed t [101, 114, 114, 111, 114]) = [35] := by kernel_rfl
theorem types_no : Tryz.prog.types.size = 255 := by kernel_rfl

theorem errT_of_laid {W : World} {l : List (String × DataW Unit)} (h : laidMetH Tryz.prog l W) (hm : ("errors.errorType", (DataW.iface "internal/reflectlite.rtype" (.agg [.ptr (.lit (.string [101, 114, 114, 111, 114]))]) : DataW Unit)) ∈ l) : ErrT W := by
  have h' := (laidMetH_iff.1 h).2
  obtain ⟨name, u, ty, e1, e2, e3, e4, e5⟩ := h' _ (List.mem_filter.2 ⟨hm, rfl⟩)
  have en : name = [101, 114, 114, 111, 114] := (Option.some.inj e1).symm
  subst en
  obtain rfl := Option.some.inj (rt_no.symm.trans e2)
  have hm : ty ∈ (List.range 255).filter fun t => Tryz.prog.rowNamed t [101, 114, 114, 111, 114] := List.mem_filter.2 ⟨List.mem_range.2 (by rw [← types_no]; exact e3), e4⟩
  rw [errT_row] at hm
  obtain rfl := List.mem_singleton.1 hm
  have hh : typeHandle Tryz.prog 35 = .pointer (some ⟨4, 35, none⟩) := by kernel_rfl
  rw [hh] at e5
  unfold ErrT
  simpa using World.var?_cell errT_no e5 0

/-! Closed facts: *api.Errno, api.Errno, error, reflectlite's rtype. -/
theorem rl_valueOfP (t : Addr) (w : World) : (ReflectliteValue.unpack (.iface 151 (.pointer (some t)))).run Tryz.prog w
    = .ok (.agg #[.pointer (some ⟨4, 151, none⟩), .pointer (some ⟨w.heap.size, 0, none⟩), .int .u64 150]) (w.alloc (.cells #[.pointer (some t)] 151)) := by kernel_rfl
theorem rl_typeP (a : Addr) (w : World) : (ReflectliteValue.methodAny (ReflectliteValue.valueError "reflectlite.Value.Type" 0) (fun t _ _ _ => ReflectliteType.toType t) #[.agg #[.pointer (some ⟨4, 151, none⟩), .pointer (some a), .int .u64 150]]).run Tryz.prog w
    = .ok (.iface 200 (.agg #[.pointer (some ⟨4, 151, none⟩)])) w := by kernel_rfl
theorem rl_methodKind (h : Value) (w : World) : (Go.method 355 200 (.agg #[h]) "Kind").run Tryz.prog w = .ok (206, h) w := by kernel_rfl
theorem rl_kindP (w : World) : ((ReflectliteType.abiMethod fun t => (fun a : Nat => Value.int IntKind.u8 (a : Int)) <$> Rtype.kind t) #[.pointer (some ⟨4, 151, none⟩)]).run Tryz.prog w = .ok (.int .u8 22) w := by kernel_rfl
theorem rl_kindE (w : World) : ((ReflectliteType.abiMethod fun t => (fun a : Nat => Value.int IntKind.u8 (a : Int)) <$> Rtype.kind t) #[.pointer (some ⟨4, 89, none⟩)]).run Tryz.prog w = .ok (.int .u8 2) w := by kernel_rfl

theorem rlm (z : Sem Value) (f : TypeId → Addr → Nat → Nat → Sem Value) (v : Value) :
    ReflectliteValue.method z f #[v] = (do match ← ReflectliteValue.parts v with | none => z | some (t, a, fl) => f t a fl (fl % 32)) := rfl
theorem rl_partsP (a : Addr) (w : World) : (ReflectliteValue.parts (.agg #[.pointer (some ⟨4, 151, none⟩), .pointer (some a), .int .u64 150])).run Tryz.prog w = .ok (some (151, a, 150)) w := by kernel_rfl
theorem rl_isNilP (a p : Addr) (W : World) (ha : W.cell? a = some (.pointer (some p))) :
    (ReflectliteValue.method (ReflectliteValue.valueError "reflectlite.Value.IsNil" 0) ReflectliteValue.isNil #[.agg #[.pointer (some ⟨4, 151, none⟩), .pointer (some a), .int .u64 150]]).run Tryz.prog W = .ok (.bool false) W := by
  rw [rlm]
  simp only [Sem.run_bind, rl_partsP, Result.andThen]
  simp [ReflectliteValue.isNil, loadVar, isAgg, underlying, Tryz.underlying151, ha, Result.andThen]

theorem rl_methodElem (h : Value) (w : World) : (Go.method 355 200 (.agg #[h]) "Elem").run Tryz.prog w = .ok (217, .agg #[h]) w := by kernel_rfl
theorem rl_methodImplements (h : Value) (w : World) : (Go.method 355 200 (.agg #[h]) "Implements").run Tryz.prog w = .ok (218, .agg #[h]) w := by kernel_rfl
theorem rl_methodAssignableTo (h : Value) (w : World) : (Go.method 355 200 (.agg #[h]) "AssignableTo").run Tryz.prog w = .ok (215, .agg #[h]) w := by kernel_rfl
theorem rl_elemP (w : World) : (ReflectliteType.method ReflectliteType.elem #[.agg #[.pointer (some ⟨4, 151, none⟩)]]).run Tryz.prog w = .ok (.iface 200 (.agg #[.pointer (some ⟨4, 89, none⟩)])) w := by kernel_rfl
theorem rl_implementsE (w : World) : (ReflectliteType.relation "Implements" ReflectliteType.implements_ #[.agg #[.pointer (some ⟨4, 89, none⟩)], .iface 200 (.agg #[.pointer (some ⟨4, 35, none⟩)])]).run Tryz.prog w = .ok (.bool true) w := by kernel_rfl
theorem rl_typeOfE (v : Value) (w : World) : (ReflectliteType.typeOf #[.iface 89 v]).run Tryz.prog w = .ok (.iface 200 (.agg #[.pointer (some ⟨4, 89, none⟩)])) w := by kernel_rfl
theorem rl_assignableE (w : World) : (ReflectliteType.relation "AssignableTo" ReflectliteType.assignableTo #[.agg #[.pointer (some ⟨4, 89, none⟩)], .iface 200 (.agg #[.pointer (some ⟨4, 89, none⟩)])]).run Tryz.prog w = .ok (.bool true) w := by kernel_rfl
theorem rl_valueOfE (n : Int) (w : World) : (ReflectliteValue.unpack (.iface 89 (.int .i64 n))).run Tryz.prog w
    = .ok (.agg #[.pointer (some ⟨4, 89, none⟩), .pointer (some ⟨w.heap.size, 0, none⟩), .int .u64 130]) (w.alloc (.cells #[.int .i64 n] 89)) := by kernel_rfl

theorem rl_elemOfP (w : World) : (Rtype.elem? 151).run Tryz.prog w = .ok (some 89) w := by kernel_rfl
theorem rl_mkE (p : Addr) (w : World) : (ReflectliteValue.mk 89 p ReflectliteValue.flagAddr).run Tryz.prog w = .ok (.agg #[.pointer (some ⟨4, 89, none⟩), .pointer (some p), .int .u64 386]) w := by kernel_rfl
theorem rl_elemV (a p : Addr) (W : World) (ha : W.cell? a = some (.pointer (some p))) :
    (ReflectliteValue.method (ReflectliteValue.valueError "reflectlite.Value.Elem" 0) ReflectliteValue.elem #[.agg #[.pointer (some ⟨4, 151, none⟩), .pointer (some a), .int .u64 150]]).run Tryz.prog W
      = .ok (.agg #[.pointer (some ⟨4, 89, none⟩), .pointer (some p), .int .u64 386]) W := by
  rw [rlm]
  simp only [Sem.run_bind, rl_partsP, Result.andThen]
  simp [ReflectliteValue.elem, loadVar, isAgg, underlying, Tryz.underlying151, ha, Result.andThen, rl_elemOfP, rl_mkE]
theorem rls (v x : Value) : ReflectliteValue.set #[v, x] = (do
    let (some (dst, a, fl), some (src, b, _)) := (← ReflectliteValue.parts v, ← ReflectliteValue.parts x)
      | unsupported (.noEntry "extern/(internal/reflectlite.Value).Set.zeroValue")
    if fl / ReflectliteValue.flagAddr % 2 == 0 then unsupported (.noEntry "extern/(internal/reflectlite.Value).Set.unaddressable")
    let val ← loadVar src b
    if ← Rtype.directlyAssignable dst src then storeVar dst a val
    else if ← Rtype.implements dst src then
      if (← Rtype.kind src) == 20 then
        match val with
        | .nilIface => unsupported (.noEntry "extern/reflectlite: a nil value of one interface type handed on as a value of another")
        | _ => storeVar dst a val
      else storeVar dst a (.iface src val)
    else panicString ("reflectlite.Set: value of type " ++ (← Rtype.spelt src) ++ " is not assignable to type " ++ (← Rtype.spelt dst))
    pure (.tuple #[])) := rfl
theorem rl_partsEa (a : Addr) (w : World) : (ReflectliteValue.parts (.agg #[.pointer (some ⟨4, 89, none⟩), .pointer (some a), .int .u64 386])).run Tryz.prog w = .ok (some (89, a, 386)) w := by kernel_rfl
theorem rl_partsE (a : Addr) (w : World) : (ReflectliteValue.parts (.agg #[.pointer (some ⟨4, 89, none⟩), .pointer (some a), .int .u64 130])).run Tryz.prog w = .ok (some (89, a, 130)) w := by kernel_rfl
theorem rl_directE (w : World) : (Rtype.directlyAssignable 89 89).run Tryz.prog w = .ok true w := by kernel_rfl
theorem rl_setE (ta b : Addr) (n : Int) (old : Value) (W : World) (hb : W.cell? b = some (.int .i64 n)) (ht : W.cell? ta = some old) (hf : W.frozen? ta = false) :
    (ReflectliteValue.set #[.agg #[.pointer (some ⟨4, 89, none⟩), .pointer (some ta), .int .u64 386], .agg #[.pointer (some ⟨4, 89, none⟩), .pointer (some b), .int .u64 130]]).run Tryz.prog W
      = .ok (.tuple #[]) (W.setCell ta (.int .i64 n)) := by
  rw [rls]
  simp only [Sem.run_bind, rl_partsEa, rl_partsE, Result.andThen]
  simp [ReflectliteValue.flagAddr, loadVar, isAgg, underlying, Tryz.underlying89, hb, Result.andThen, rl_directE, storeVar, Value.cells, storeCells, Addr.add]
  rw [run_store Tryz.prog W ta _ _ (by rfl)]
  simp [ht, hf]

end Go.Proofs.YtipajekehbpghaaGreatDoor

namespace Go.Proofs.YtipajekehbpghaaGreatDoor
open Go.RowKit Go.Extern.Stop Go.Stop Go.Extern

/-- the world behind errors.As at an Errno -/
def asWorld (n : Int) (t : Addr) (w : World) : World :=
  (((((w.alloc (.cells #[.pointer (some t)] 151)).alloc (.cells #[.pointer (some ⟨4, 151, none⟩), .pointer (some ⟨w.heap.size, 0, none⟩), .int .u64 150] 173)).alloc (.cells #[.pointer (some ⟨4, 151, none⟩), .pointer (some ⟨w.heap.size, 0, none⟩), .int .u64 150] 173)).alloc (.cells #[.int .i64 n] 89)).setCell t (.int .i64 n))

set_option maxRecDepth 100000 in
set_option maxHeartbeats 4000000 in
theorem as_errno (n : Int) (t : Addr) (old : Value) (w : World) (hg : ErrT w) (ht0 : w.cell? t = some old) (hf0 : w.frozen? t = false) :
    Calls Tryz.prog 126 #[.iface 89 (.int .i64 n), .iface 151 (.pointer (some t))] w fun ev w' => ev = .returned (.bool true) ∧ w' = asWorld n t w := by
  have h6 := @run_callFunc_extern Tryz.prog 149 _ (fun args => ReflectliteValue.unpack (args.getD 0 (.tuple #[]))) Tryz.func149 (by kernel_rfl) (by kernel_rfl) (by kernel_rfl) (by kernel_rfl)
  have h7 := @run_callFunc_extern Tryz.prog 150 _ (ReflectliteValue.methodAny (ReflectliteValue.valueError "reflectlite.Value.Type" 0) (fun t _ _ _ => ReflectliteType.toType t)) Tryz.func150 (by kernel_rfl) (by kernel_rfl) (by kernel_rfl) (by kernel_rfl)
  have h8 := @run_callFunc_extern Tryz.prog 151 _ (ReflectliteValue.method (ReflectliteValue.valueError "reflectlite.Value.IsNil" 0) ReflectliteValue.isNil) Tryz.func151 (by kernel_rfl) (by kernel_rfl) (by kernel_rfl) (by kernel_rfl)
  have h27 := @run_callFunc_extern Tryz.prog 206 _ (ReflectliteType.abiMethod fun t => do pure (.int .u8 (← Rtype.kind t))) Tryz.func206 (by kernel_rfl) (by kernel_rfl) (by kernel_rfl) (by kernel_rfl)
  have h37 := @run_callFunc_extern Tryz.prog 217 _ (ReflectliteType.method ReflectliteType.elem) Tryz.func217 (by kernel_rfl) (by kernel_rfl) (by kernel_rfl) (by kernel_rfl)
  have h38 := @run_callFunc_extern Tryz.prog 218 _ (ReflectliteType.relation "Implements" ReflectliteType.implements_) Tryz.func218 (by kernel_rfl) (by kernel_rfl) (by kernel_rfl) (by kernel_rfl)
  have h10 := @run_callFunc_extern Tryz.prog 173 _ ReflectliteType.typeOf Tryz.func173 (by kernel_rfl) (by kernel_rfl) (by kernel_rfl) (by kernel_rfl)
  have h35 := @run_callFunc_extern Tryz.prog 215 _ (ReflectliteType.relation "AssignableTo" ReflectliteType.assignableTo) Tryz.func215 (by kernel_rfl) (by kernel_rfl) (by kernel_rfl) (by kernel_rfl)
  have h11 := @run_callFunc_extern Tryz.prog 174 _ (ReflectliteValue.method (ReflectliteValue.valueError "reflectlite.Value.Elem" 0) ReflectliteValue.elem) Tryz.func174 (by kernel_rfl) (by kernel_rfl) (by kernel_rfl) (by kernel_rfl)
  have h12 := @run_callFunc_extern Tryz.prog 175 _ ReflectliteValue.set Tryz.func175 (by kernel_rfl) (by kernel_rfl) (by kernel_rfl) (by kernel_rfl)
  have tO := rl_typeOfE
  have mA := rl_methodAssignableTo
  have a25 := rl_assignableE
  have v25 := rl_valueOfE
  have f6 := rl_valueOfP
  have f7 := rl_typeP
  have mK := rl_methodKind
  have mE := rl_methodElem
  have mI := rl_methodImplements
  have k27 := rl_kindP
  have k25 := rl_kindE
  have e27 := rl_elemP
  have i25 := rl_implementsE
  have n8 := rl_isNilP ⟨w.heap.size, 0, none⟩ t ((w.alloc (.cells #[.pointer (some t)] 151)).alloc (.cells #[.pointer (some ⟨4, 151, none⟩), .pointer (some ⟨w.heap.size, 0, none⟩), .int .u64 150] 173)) (by simp)
  have hlt := hg.lt
  unfold ErrT at hg
  have hg2 : ((w.alloc (.cells #[.pointer (some t)] 151)).alloc (.cells #[.pointer (some ⟨4, 151, none⟩), .pointer (some ⟨w.heap.size, 0, none⟩), .int .u64 150] 173)).cell? ⟨0, 0, none⟩ = some (.iface 200 (.agg #[.pointer (some ⟨4, 35, none⟩)])) := by
    rw [World.cell?_alloc_lt _ _ ⟨0, 0, none⟩ (by simp <;> omega), World.cell?_alloc_lt _ _ ⟨0, 0, none⟩ hlt]; exact hg
  have htl : t.block < w.heap.size := by
    rcases Nat.lt_or_ge t.block w.heap.size with h | h
    · exact h
    · simp [World.cell?, Array.getElem?_eq_none h] at ht0
  have el := rl_elemV ⟨w.heap.size, 0, none⟩ t (((w.alloc (.cells #[.pointer (some t)] 151)).alloc (.cells #[.pointer (some ⟨4, 151, none⟩), .pointer (some ⟨w.heap.size, 0, none⟩), .int .u64 150] 173)).alloc (.cells #[.pointer (some ⟨4, 151, none⟩), .pointer (some ⟨w.heap.size, 0, none⟩), .int .u64 150] 173)) (by rw [World.cell?_alloc_lt _ _ ⟨w.heap.size, 0, none⟩ (by simp <;> omega)]; simp)
  have st := rl_setE t ⟨w.heap.size + 1 + 1 + 1, 0, none⟩ n old ((((w.alloc (.cells #[.pointer (some t)] 151)).alloc (.cells #[.pointer (some ⟨4, 151, none⟩), .pointer (some ⟨w.heap.size, 0, none⟩), .int .u64 150] 173)).alloc (.cells #[.pointer (some ⟨4, 151, none⟩), .pointer (some ⟨w.heap.size, 0, none⟩), .int .u64 150] 173)).alloc (.cells #[.int .i64 n] 89))
    (by rw [World.cell?_alloc_at _ _ _ _ (by simp)]; rfl)
    (by rw [World.cell?_alloc_lt _ _ t (by simp <;> omega), World.cell?_alloc_lt _ _ t (by simp <;> omega), World.cell?_alloc_lt _ _ t (by simp <;> omega), World.cell?_alloc_lt _ _ t htl]; exact ht0)
    (by rw [World.frozen?_alloc_old _ _ t (by simp <;> omega), World.frozen?_alloc_old _ _ t (by simp <;> omega), World.frozen?_alloc_old _ _ t (by simp <;> omega), World.frozen?_alloc_old _ _ t (Nat.ne_of_lt htl)]; exact hf0)
  go_enter Tryz.func126, Tryz.ntmps126
  go_wp2
  refine wp_loop_rounds 1 ?_
  rw [rounds_succ]
  go_wp2
  go_ret
  exact ⟨rfl, rfl⟩

theorem asWorld_below (n : Int) (w : World) (o : Obj) : Below w.heap.size w (asWorld n ⟨w.heap.size, 0, none⟩ (w.alloc o)) := by
  unfold asWorld
  exact ((((((Below.refl _ _).alloc (Nat.le_refl _) _).alloc (by simp <;> omega) _).alloc (by simp <;> omega) _).alloc (by simp <;> omega) _).alloc (by simp <;> omega) _).setCell (Nat.le_refl _) _
theorem asWorld_cell (n : Int) (w : World) (o : Obj) (v : Value) (ho : (w.alloc o).cell? ⟨w.heap.size, 0, none⟩ = some v) : (asWorld n ⟨w.heap.size, 0, none⟩ (w.alloc o)).cell? ⟨w.heap.size, 0, none⟩ = some (.int .i64 n) := by
  unfold asWorld
  refine World.cell?_setCell_same' _ _ _ ?_
  rw [World.cell?_alloc_lt _ _ ⟨w.heap.size, 0, none⟩ (by simp <;> omega), World.cell?_alloc_lt _ _ ⟨w.heap.size, 0, none⟩ (by simp <;> omega), World.cell?_alloc_lt _ _ ⟨w.heap.size, 0, none⟩ (by simp <;> omega), World.cell?_alloc_lt _ _ ⟨w.heap.size, 0, none⟩ (by simp <;> omega), ho]
  rfl

theorem tell_nil (w : World) : Calls Tryz.prog 90 #[.nilIface] w fun e w' => e = .returned (.int .i64 0) ∧ w' = w := by
  go_enter Tryz.func90, Tryz.ntmps90
  go_wp2_with fail
  go_ret
  exact ⟨rfl, rfl⟩

theorem tell_errno (n : Int) (w : World) (hg : ErrT w) : Calls Tryz.prog 90 #[.iface 89 (.int .i64 n)] w fun e w' => e = .returned (.int .i64 n) ∧ Below w.heap.size w w' := by
  have hg' : ErrT (w.alloc (.cells #[.int .i64 0] 89)) := hg.below ((Below.refl _ _).alloc (Nat.le_refl _) _)
  have ha := as_errno n ⟨w.heap.size, 0, none⟩ (.int .i64 0) (w.alloc (.cells #[.int .i64 0] 89)) hg' (by simp) (by simp)
  have HA := Lib.hid ha
  clear ha hg hg'
  have hb := asWorld_below n w (.cells #[.int .i64 0] 89)
  have hc := asWorld_cell n w (.cells #[.int .i64 0] 89) (.int .i64 0) (by simp)
  obtain ⟨w2, hw2⟩ : ∃ w2, w2 = asWorld n ⟨w.heap.size, 0, none⟩ (w.alloc (.cells #[.int .i64 0] 89)) := ⟨_, rfl⟩
  rw [← hw2] at hb hc HA
  clear hw2
  have HB := Lib.hid hb
  clear hb
  go_enter Tryz.func90, Tryz.ntmps90
  go_wp2_with fail
  refine HA.out.mono ?_
  rintro e w1 ⟨rfl, rfl⟩
  go_wp2_with fail
  go_ret
  exact ⟨rfl, HB.out⟩

end Go.Proofs.YtipajekehbpghaaGreatDoor

namespace Pk
open Pth Tre
theorem allGo_snoc : ∀ (l : List Ent) (t : T) (i : Nat) (e : Ent), allGo t i (l ++ [e]) = ((into (allGo t i l).1 e).1, (allGo t i l).2 ++ if (into (allGo t i l).1 e).2 ≠ 0 then [(i + l.length, (into (allGo t i l).1 e).2)] else [])
  | [], t, i, e => by simp only [allGo, List.nil_append, List.append_nil, List.length_nil, Nat.add_zero]; rfl
  | x :: l, t, i, e => by
    have := allGo_snoc l (into t x).1 (i + 1) e
    rw [List.cons_append]
    show (((allGo (into t x).1 (i + 1) (l ++ [e])).1, _) : T × List (Nat × Int)) = _
    rw [this]
    simp only [allGo, List.length_cons, List.append_assoc]
    rw [show i + 1 + l.length = i + (l.length + 1) by omega]
    rfl
theorem all_snoc (t : T) (l : List Ent) (e : Ent) : all t (l ++ [e]) = ((into (all t l).1 e).1, (all t l).2 ++ if (into (all t l).1 e).2 ≠ 0 then [(l.length, (into (all t l).1 e).2)] else []) := by
  have := allGo_snoc l t 0 e
  rw [Nat.zero_add] at this
  exact this
theorem allGo_std : ∀ (l : List Ent) (t : T) (i : Nat), Std t → Std (allGo t i l).1
  | [], _, _, h => h
  | e :: l, _, i, h => allGo_std l _ (i + 1) (Std.into h e)
theorem all_std {t : T} (h : Std t) (l : List Ent) : Std (all t l).1 := allGo_std l t 0 h
theorem allGo_nx : ∀ (l : List Ent) (t : T) (i : Nat), (allGo t i l).1.nx ≤ t.nx + 124 * l.length
  | [], _, _ => Nat.le_refl _
  | e :: l, t, i => by
    have h1 := into_nx t e
    have h2 := allGo_nx l (into t e).1 (i + 1)
    simp only [List.length_cons]
    show (allGo (into t e).1 (i + 1) l).1.nx ≤ _
    omega
theorem all_nx (t : T) (l : List Ent) : (all t l).1.nx ≤ t.nx + 124 * l.length := allGo_nx l t 0
/-- No error at the end: none on the way. -/
theorem all_none_take {t : T} {l : List Ent} (h : (all t l).2 = []) {i : Nat} (hi : i < l.length) : (into (all t (l.take i)).1 l[i]).2 = 0 := by
  have h2 : ∀ (m : List Ent) (t : T) (l : List Ent) (k : Nat), (allGo t k (l ++ m)).2 = [] → (allGo t k l).2 = [] := by
    intro m
    intro t l
    induction l generalizing t with
    | nil => intro k _; rfl
    | cons x l ih =>
      intro k hk
      rw [List.cons_append] at hk
      simp only [allGo, List.append_eq_nil_iff] at hk ⊢
      exact ⟨hk.1, ih _ _ hk.2⟩
  have h3 : (all t (l.take (i + 1))).2 = [] := h2 (l.drop (i + 1)) t (l.take (i + 1)) 0 (by rw [List.take_append_drop]; exact h)
  rw [List.take_succ_eq_append_getElem hi, all_snoc] at h3
  by_cases hc : (into (all t (l.take i)).1 l[i]).2 = 0
  · exact hc
  · rw [if_pos hc] at h3
    simp at h3
end Pk
namespace Go.Proofs.YtipajekehbpghaaGreatDoor
open Go.RowKit Go.Maps Tre Pk

/-- The cells of differences. -/
def dfCells (l : List (Nat × Int)) : List Value := l.flatMap fun p => [.int .i64 (p.1 : Int), .int .i64 p.2]
theorem dfCells_app (l m : List (Nat × Int)) : dfCells (l ++ m) = dfCells l ++ dfCells m := by simp [dfCells]
theorem dfCells_len (l : List (Nat × Int)) : (dfCells l).length = l.length * 2 := by
  induction l with
  | nil => rfl
  | cons p l ih => simp only [dfCells, List.flatMap_cons, List.length_append, List.length_cons, List.length_nil] at ih ⊢; rw [ih]; omega
/-- A slice of differences that the call owns. -/
def HasD (w : World) (B : Nat) (v : Value) (l : List (Nat × Int)) : Prop := w.ownsRow B 60 2 v l.length (dfCells l)
theorem HasD.nil (w : World) (B : Nat) : HasD w B (.slice none 0 0) [] := World.ownsRow_nil _ _ _ _
theorem HasD.form {w : World} {B : Nat} {v : Value} {l : List (Nat × Int)} (h : HasD w B v l) : ∃ X cap, v = .slice X l.length cap := by
  obtain ⟨_, hw⟩ := h
  rcases hw with ⟨rfl, h0⟩ | ⟨g, cap, cur, rfl, _⟩
  · exact ⟨none, 0, by rw [h0]⟩
  · exact ⟨some ⟨g, 0, none⟩, cap, rfl⟩
theorem HasD.later {w w' : World} {B : Nat} {v : Value} {l : List (Nat × Int)} (h : HasD w B v l) (hb : Below w.heap.size w w') : HasD w' B v l :=
  World.ownsRow.kept h (only_of_below hb none) (by cases v.ownBlock <;> simp)
/-- A row of cells of another type lies in none of a tree's blocks. -/
theorem TreeAt.apartO {w : World} {g : Nat} {on of : Option Nat} {t : T} (h : TreeAt w g on of t) {B e s n b : Nat} {v : Value} {xs : List Value} (h1 : w.ownsRow B e s v n xs) (hne : e ≠ 71) (hb : v.ownBlock = some b) : b ∉ own g on of := by
  rcases h1.2 with ⟨rfl, _⟩ | ⟨g1, c1, cur1, rfl, _, hg1, _⟩
  · cases hb
  · have e1 : g1 = b := by simpa [Value.ownBlock] using hb
    subst e1
    intro hm
    rcases List.mem_cons.1 hm with rfl | hm
    · have h2 := h.blk
      unfold Blk at h2
      rw [hg1] at h2
      have := Option.some.inj h2
      injection this with _ e3
      exact hne e3
    · rcases List.mem_append.1 hm with hm | hm
      · have e : on = some g1 := by simpa [eq_comm] using hm
        have hn := h.nm
        rw [e] at hn
        obtain ⟨D, ⟨es, clock, hq, _⟩, _⟩ := hn
        rw [hg1] at hq
        cases hq
      · have e : of = some g1 := by simpa [eq_comm] using hm
        obtain ⟨nf, hf, _⟩ := h.fl
        rw [e] at hf
        obtain ⟨D, ⟨es, clock, hq, _⟩, _⟩ := hf
        rw [hg1] at hq
        cases hq
theorem ownsRow_kept {w w' : World} {g : Nat} {on of : Option Nat} {t : T} (h : TreeAt w g on of t) (k : Kept (own g on of) w w') {B e s n : Nat} {v : Value} {xs : List Value} (h1 : w.ownsRow B e s v n xs) (hne : e ≠ 71) : w'.ownsRow B e s v n xs := by
  have ha := fun b hb => h.apartO h1 hne (b := b) hb
  refine ⟨h1.1, ?_⟩
  rcases h1.2 with hn | ⟨g1, c1, cur1, rfl, hB, hg1, r⟩
  · exact .inl hn
  · refine .inr ⟨g1, c1, cur1, rfl, hB, ?_, r⟩
    rw [k.block g1 (Array.getElem?_eq_some_iff.1 hg1).1 (ha g1 rfl)]
    exact hg1
/-- What All leaves. -/
def AllPost (w : World) (g : Nat) (on of : Option Nat) (r : T × List (Nat × Int)) (e : Ending) (w' : World) : Prop := ∃ v, e = .returned v ∧ HasD w' w.heap.size v r.2 ∧ Turned w g on of r.1 w'
theorem infoDf : (Tryz.prog.info? 60).map (fun i => (i.zero, i.size, i.bytes)) = some (some (.agg #[.int .i64 0, .int .i64 0]), 2, 16) := by kernel_rfl

theorem Kept.next {w wr w2 : World} {g : Nat} {on of n' f' : Option Nat} (h1 : ∀ x ∈ own g n' f', x ∈ own g on of ∨ w.heap.size ≤ x) (hk : Kept (own g on of) w wr) (k : Kept (own g n' f') wr w2) : Kept (own g on of) w w2 :=
  ⟨k.os.trans hk.os, k.tape.trans hk.tape, k.output.trans hk.output, Nat.le_trans hk.size k.size, fun x hx hn =>
    (k.block x (Nat.lt_of_lt_of_le hx hk.size) (fun hm => (h1 x hm).elim hn (fun hh => by omega))).trans (hk.block x hx hn)⟩
theorem Kept.grownO {O : List Nat} {a b c : World} {row : Option Nat} (h : Kept O a b) (k : b.grownBy c row) (hg : ∀ q, row = some q → q ∈ O ∨ a.heap.size ≤ q) : Kept O a c := by
  cases row with
  | none => exact h.trans ⟨k.os, k.tape, k.output, k.size, fun x hx _ => k.block x hx (by simp)⟩
  | some q => exact h.grown k (hg q rfl)
/-- What stands while members are put in. -/
structure Aw (w : World) (g : Nat) (on of : Option Nat) (t : T) (v : Value) (ps : List (Ent × Value)) (i : Nat) (ov : Value) (n' f' : Option Nat) (wr : World) : Prop where
  at_ : TreeAt wr g n' f' (all t ((ps.map Prod.fst).take i)).1
  ow : ∀ x ∈ own g n' f', x ∈ own g on of ∨ w.heap.size ≤ x
  kp : Kept (own g on of) w wr
  df : HasD wr w.heap.size ov (all t ((ps.map Prod.fst).take i)).2
theorem Aw.down {w0 w : World} {g : Nat} {on of : Option Nat} {t : T} {v : Value} {ps : List (Ent × Value)} {i : Nat} {ov : Value} {n' f' : Option Nat} {wr : World} (h : Aw w g on of t v ps i ov n' f' wr) (h0 : Below w0.heap.size w0 w) (hO : ∀ b ∈ own g on of, w0.heap.size ≤ b) : Below w0.heap.size w0 wr :=
  h0.trans (h.kp.down hO h0.size)

set_option maxRecDepth 100000 in
set_option maxHeartbeats 8000000 in
theorem all_any {w0 w : World} {g : Nat} {on of : Option Nat} {t : T} (hm : ML w0) (h0 : Below w0.heap.size w0 w) (hO : ∀ b ∈ own g on of, w0.heap.size ≤ b) (h : TreeAt w g on of t) (ht : Std t) (hx : t.nx ≤ 60000)
    (v : Value) (ps : List (Ent × Value)) (he : EntsAt w v ps) (hl : ps.length ≤ 100) (hq : ∀ p ∈ ps, EntOk p.1) (hE : ErrT w0 ∨ (all t (ps.map Prod.fst)).2 = []) :
    Calls Tryz.prog 45 #[.pointer (some ⟨g, 0, none⟩), v] w (AllPost w g on of (all t (ps.map Prod.fst))) := by
  obtain ⟨i0, i1, i2, i3, i4⟩ := info_parts infoDf
  have HM := Lib.hid hm
  have H0 := Lib.hid h0
  have HO := Lib.hid hO
  have HS := Lib.hid ht
  have HQ := Lib.hid hq
  have HE := Lib.hid hE
  have M0 : Hid (Aw w g on of t v ps 0 (.slice none 0 0) on of w) := Lib.hid ⟨by rw [List.take_zero]; exact h, fun x hx => .inl hx, Kept.refl _ _, by rw [List.take_zero]; exact HasD.nil _ _⟩
  have HEN := Lib.hid he
  have HTT := Lib.hid h
  obtain ⟨A, cap, hv, hcap, hr⟩ := he.row
  have hli : (ps.length : Int) ≤ 100 := by omega
  obtain ⟨L, hL⟩ : ∃ L, L = ps.map Prod.fst := ⟨_, rfl⟩
  have hLl : L.length = ps.length := by rw [hL, List.length_map]
  have HLL := Lib.hid hLl
  have HLE := Lib.hid hL
  rw [← hL]
  have HR := Lib.hid hr
  have HX := Lib.hid hx
  clear hm h0 hO ht hq hE hr he h hLl hL hx
  go_enter Tryz.func45, Tryz.ntmps45
  rw [hv]
  have HV := Lib.hid hv
  clear hv
  go_wp2_with fail
  go_loopg [5, 11] (ps.length) (fun gg ov iv wr => ∃ (i : Nat) (n' f' : Option Nat), iv = .int .i64 i ∧ i + gg = ps.length ∧ Hid (Aw w g on of t v ps i ov n' f' wr))
  case atStart => exact ⟨0, on, of, rfl, by omega, M0⟩
  case round =>
    obtain ⟨i, n', f', rfl, hg, MD⟩ := hrel
    have HG := Lib.hid hg
    have hil : i ≤ ps.length := by omega
    clear hg M0
    by_cases hlt : i < ps.length
    · have hlti : (i : Int) < ps.length := by omega
      have hEw := HEN.out.kept HTT.out MD.out.kp
      rcases HR.out with hn | ⟨b, off, rfl, _, _⟩
      · rw [hn] at hlt; cases hlt
      obtain ⟨A2, cap2, hv2, _, hr2⟩ := hEw.row
      rw [HV.out] at hv2
      injection hv2 with ea e0 ec
      clear e0 ec
      rcases hr2 with hn | ⟨b2, off2, ea2, hb2, hrow⟩
      · rw [hn] at hlt; cases hlt
      rw [ea2] at ea
      simp only [Option.some.injEq, Addr.mk.injEq, and_true] at ea
      obtain ⟨e1, e2⟩ := ea
      have e1' : b = b2 := by omega
      have e2' : off = off2 := by omega
      subst e1' e2'
      clear e1 e2
      obtain ⟨p, hp⟩ : ∃ p, p = ps[i] := ⟨_, rfl⟩
      have hmem : p ∈ ps := by rw [hp]; exact List.getElem_mem hlt
      have hpc := hEw.pc p hmem
      obtain ⟨E, mv⟩ := p
      have hrw := hrow.at_ hlt hp.symm
      have hLi : L[i]'(by rw [HLL.out]; exact hlt) = E := by
        have := HLE.out
        subst this
        rw [List.getElem_map, ← hp]
      have hsn : all t (L.take (i + 1)) = ((into (all t (L.take i)).1 E).1, (all t (L.take i)).2 ++ if (into (all t (L.take i)).1 E).2 ≠ 0 then [(i, (into (all t (L.take i)).1 E).2)] else []) := by
        rw [List.take_succ_eq_append_getElem (by rw [HLL.out]; exact hlt), all_snoc, hLi, List.length_take, HLL.out, Nat.min_eq_left hil]
      have hnone : (all t L).2 = [] → (into (all t (L.take i)).1 E).2 = 0 := fun hh => by
        have := all_none_take hh (i := i) (by rw [HLL.out]; exact hlt)
        rwa [hLi] at this
      have SU := Lib.hid (all_std HS.out (L.take i))
      have hnx := all_nx t (L.take i)
      have hnl : (L.take i).length ≤ 100 := by rw [List.length_take]; omega
      have hMat := MD.out.at_
      have hMdf := MD.out.df
      rw [← HLE.out] at hMat hMdf
      obtain ⟨U, hU⟩ : ∃ U, U = all t (L.take i) := ⟨_, rfl⟩
      rw [← hU] at hsn hnone SU hnx hMat hMdf
      have BB := Lib.hid (MD.out.down H0.out HO.out)
      obtain ⟨n, k, m1, m2, m3, z, sc, na, l, u, gr, mj, mn, d, mp⟩ := E
      obtain ⟨MA0, mcap, hmv, _⟩ := id hpc
      simp only at hmv
      subst hmv
      have hev : ev ⟨n, k, m1, m2, m3, z, sc, na, l, u, gr, mj, mn, d, mp⟩ (.slice MA0 mp.length mcap) = .agg #[.string (bs n), .int .u8 k, .int .i64 m1, .int .i64 m2, .int .i64 m3, .int .i64 z, .int .i64 sc, .int .i64 na, .string (bs l), .string (bs u), .string (bs gr), .int .i64 mj, .int .i64 mn, .string (bs d), .slice MA0 mp.length mcap] := rfl
      have hB := (Below.refl wr.heap.size wr).alloc (Nat.le_refl _) (.cells #[.string (bs n), .int .u8 k, .int .i64 m1, .int .i64 m2, .int .i64 m3, .int .i64 z, .int .i64 sc, .int .i64 na, .string (bs l), .string (bs u), .string (bs gr), .int .i64 mj, .int .i64 mn, .string (bs d), .slice MA0 mp.length mcap] 40)
      have IN := Lib.hid (into_any (HM.out.below (thenB BB.out hB)) (hMat.below hB) SU.out (by have := HX.out; omega) ⟨n, k, m1, m2, m3, z, sc, na, l, u, gr, mj, mn, d, mp⟩ (.slice MA0 mp.length mcap) (hpc.below hB) (HQ.out _ hmem))
      rw [hev] at IN
      obtain ⟨C, hC⟩ : ∃ C, C = into U.1 ⟨n, k, m1, m2, m3, z, sc, na, l, u, gr, mj, mn, d, mp⟩ := ⟨_, rfl⟩
      rw [← hC] at IN hsn hnone
      have HSN := Lib.hid hsn
      have HNO := Lib.hid hnone
      have MA := Lib.hid hMat
      have MDF := Lib.hid hMdf
      have HB := Lib.hid hB
      have d0 : wr.cell? ⟨b, off + i * 15, none⟩ = some (.string (bs n)) := hrw 0 (by omega)
      have d1 : wr.cell? ⟨b, off + i * 15 + 1, none⟩ = some (.int .u8 k) := hrw 1 (by omega)
      have d2 : wr.cell? ⟨b, off + i * 15 + 2, none⟩ = some (.int .i64 m1) := hrw 2 (by omega)
      have d3 : wr.cell? ⟨b, off + i * 15 + 3, none⟩ = some (.int .i64 m2) := hrw 3 (by omega)
      have d4 : wr.cell? ⟨b, off + i * 15 + 4, none⟩ = some (.int .i64 m3) := hrw 4 (by omega)
      have d5 : wr.cell? ⟨b, off + i * 15 + 5, none⟩ = some (.int .i64 z) := hrw 5 (by omega)
      have d6 : wr.cell? ⟨b, off + i * 15 + 6, none⟩ = some (.int .i64 sc) := hrw 6 (by omega)
      have d7 : wr.cell? ⟨b, off + i * 15 + 7, none⟩ = some (.int .i64 na) := hrw 7 (by omega)
      have d8 : wr.cell? ⟨b, off + i * 15 + 8, none⟩ = some (.string (bs l)) := hrw 8 (by omega)
      have d9 : wr.cell? ⟨b, off + i * 15 + 9, none⟩ = some (.string (bs u)) := hrw 9 (by omega)
      have d10 : wr.cell? ⟨b, off + i * 15 + 10, none⟩ = some (.string (bs gr)) := hrw 10 (by omega)
      have d11 : wr.cell? ⟨b, off + i * 15 + 11, none⟩ = some (.int .i64 mj) := hrw 11 (by omega)
      have d12 : wr.cell? ⟨b, off + i * 15 + 12, none⟩ = some (.int .i64 mn) := hrw 12 (by omega)
      have d13 : wr.cell? ⟨b, off + i * 15 + 13, none⟩ = some (.string (bs d)) := hrw 13 (by omega)
      have d14 : wr.cell? ⟨b, off + i * 15 + 14, none⟩ = some (.slice MA0 mp.length mcap) := hrw 14 (by omega)
      obtain ⟨X, capo, rfl⟩ := MDF.out.form
      have hdl : U.2.length ≤ i := by
        have h1 : ∀ (l : List Ent) (t : T) (k : Nat), (allGo t k l).2.length ≤ l.length := by
          intro l
          induction l with
          | nil => intro t k; exact Nat.le_refl _
          | cons x l ih =>
            intro t k
            have := ih (into t x).1 (k + 1)
            simp only [allGo, List.length_append, List.length_cons]
            split <;> simp <;> omega
        have h2 := h1 (L.take i) t 0
        rw [List.length_take] at h2
        have h3 : (allGo t 0 (L.take i)).2 = U.2 := by rw [hU]; rfl
        rw [h3] at h2
        omega
      clear hEw hmem hp hpc hrw hLi hsn hnone hnx hnl hMat hMdf hU hev hB hC hrow hb2
      go_wp2_with fail
      refine IN.out.mono ?_
      rintro en w2 ⟨rfl, n2, f2, k1, k2, k3⟩
      have K0 := Lib.hid ((Kept.of_below HB.out).trans k3)
      have OW2 := Lib.hid (show ∀ x ∈ own g n2 f2, x ∈ own g on of ∨ w.heap.size ≤ x from fun x hx => (k2 x hx).elim (MD.out.ow x) (fun hh => .inr (Nat.le_trans MD.out.kp.size (Nat.le_trans HB.out.size hh))))
      have KP2 := Lib.hid (Kept.next MD.out.ow MD.out.kp K0.out)
      have D2 : Hid (w2.ownsRow w.heap.size 60 2 (.slice X U.2.length capo) U.2.length (dfCells U.2)) := Lib.hid (ownsRow_kept MA.out K0.out MDF.out (by decide))
      have K2 := Lib.hid k1
      have BB2 := Lib.hid (BB.out.trans (K0.out.down (fun x hx => (MD.out.ow x hx).elim (HO.out x) (fun hh => Nat.le_trans H0.out.size hh)) BB.out.size))
      clear k1 k2 k3 IN d0 d1 d2 d3 d4 d5 d6 d7 d8 d9 d10 d11 d12 d13 d14
      by_cases hc : C.2 = 0
      · have e1 : errV C.2 = .nilIface := by rw [hc]; rfl
        have hsn := HSN.out
        rw [if_neg (by simp [hc]), List.append_nil] at hsn
        have HS2 := Lib.hid hsn
        rw [e1]
        clear e1 hc hsn
        go_wp2_with fail
        go_roundg (ps.length - (i + 1))
        case measure => have := HG.out; omega
        case rel => exact ⟨i + 1, n2, f2, by go_num, by have := HG.out; omega, Lib.hid ⟨by rw [← HLE.out, HS2.out]; exact K2.out, OW2.out, KP2.out, by rw [← HLE.out, HS2.out]; exact D2.out⟩⟩
      · have hsn := HSN.out
        rw [if_pos hc] at hsn
        have HS2 := Lib.hid hsn
        have e1 : errV C.2 = .iface 89 (.int .i64 C.2) := if_neg hc
        have hee : ErrT w0 := HE.out.resolve_right (fun hh => hc (HNO.out (by rw [HLE.out]; exact hh)))
        have TL := Lib.hid (tell_errno C.2 w2 (hee.below BB2.out))
        rw [e1]
        clear e1 hc hsn hee
        go_wp2_with fail
        refine TL.out.mono ?_
        rintro en w3 ⟨rfl, h3⟩
        have D3 : Hid (w3.ownsRow w.heap.size 60 2 (.slice X U.2.length capo) U.2.length (dfCells U.2)) := Lib.hid (HasD.later D2.out h3)
        have K3 := Lib.hid (K2.out.below h3)
        have KP3 := Lib.hid (KP2.out.below h3)
        have hz3 := KP3.out.size
        clear h3 TL
        go_wp2_with (first
          | (at_builtin; refine wpList_append_own _ rfl (.tmp 21) (.tmp 26) 54 rfl w.heap.size 60 i0 _ 2 16 Tryz.underlying54 i1 i2 i3 i4 rfl (by decide) (.slice X U.2.length capo) U.2.length (dfCells U.2) rfl (D3.out.alloc _) ⟨w3.heap.size, 0, none⟩ 1 1 [.int .i64 (i : Int), .int .i64 C.2] rfl rfl (new_two w3 _ _ _) (by intro u hu; simp at hu; rcases hu with rfl | rfl <;> rfl) (by unfold maxLen; omega) (by omega) (by have := hz3; simp; omega) ?_; intro v9 w9 hown9 hgrow9 _))
        have A9 := Lib.hid (World.ownsRow.alloc D3.out (.cells #[.int .i64 (i : Int), .int .i64 C.2] 60))
        have T9 := Lib.hid (K3.out.below ((Below.refl w3.heap.size w3).alloc (Nat.le_refl _) (.cells #[.int .i64 (i : Int), .int .i64 C.2] 60)))
        have K9 := Lib.hid (KP3.out.alloc (.cells #[.int .i64 (i : Int), .int .i64 C.2] 60))
        have TT9 := Lib.hid (T9.out.kept hgrow9.size (fun b hb => hgrow9.block b (T9.out.lt b hb) (fun e => T9.out.apartO A9.out (by decide) e.symm hb)))
        have KK9 := Lib.hid (K9.out.grownO hgrow9 (fun q hq => .inr (World.ownsRow.lt A9.out q hq).1))
        have DD9 : Hid (HasD w9 w.heap.size v9 (U.2 ++ [(i, C.2)])) := Lib.hid (by
          unfold HasD
          rw [dfCells_app, List.length_append]
          exact hown9)
        clear hown9 hgrow9
        go_roundg (ps.length - (i + 1))
        case measure => have := HG.out; omega
        case rel => exact ⟨i + 1, n2, f2, by go_num, by have := HG.out; omega, Lib.hid ⟨by rw [← HLE.out, HS2.out]; exact TT9.out, OW2.out, KK9.out, by rw [← HLE.out, HS2.out]; exact DD9.out⟩⟩
    · have hlti : ¬ (i : Int) < ps.length := by omega
      have hta : (ps.map Prod.fst).take i = L := by rw [← HLE.out, List.take_of_length_le (by rw [HLL.out]; omega)]
      have M1 := MD.out.at_
      have M2 := MD.out.df
      rw [hta] at M1 M2
      have MM1 := Lib.hid M1
      have MM2 := Lib.hid M2
      clear M1 M2 hta
      go_wp2_with fail
      go_ret
      exact ⟨_, rfl, MM2.out, n', f', MM1.out, MD.out.ow, MD.out.kp⟩

end Go.Proofs.YtipajekehbpghaaGreatDoor

namespace Pk
open Pth Tre
theorem ps1 : Std pt1 := Std.into Std.none_ _
theorem ps2 : Std pt2 := Std.into ps1 _
theorem pn1 : pt1.nx ≤ 124 := by have h := into_nx none_ pe1; have h0 : none_.nx = 0 := rfl; rw [h0] at h; exact h
theorem pn2 : pt2.nx ≤ 248 := by have := into_nx pt1 pe2; have := pn1; show (into pt1 pe2).1.nx ≤ 248; omega
set_option maxRecDepth 100000 in
theorem pnames : pt2.names = [[97], [97, 47, 98], [99]] := by
  refine (eq_names ps2 ?_ ?_).symm
  · rw [pg2]; exact List.Perm.refl _
  · decide
def pl0 : Ent := whole [97] ⟨53, 493, 0, 0, 0, 0, [], [], 0, 0⟩
def pl1 : Ent := whole [97, 47, 98] ⟨48, 0, 0, 0, 0, 0, [120], [], 0, 0⟩
def pl2 : Ent := hard [99] [97, 47, 98] ⟨48, 0, 0, 0, 0, 0, [120], [], 0, 0⟩
set_option maxRecDepth 100000 in
theorem plist : list pt2 false = [pl0, pl1, pl2] := by
  have l0 : look pt2.ents [97] = some 1 := by rw [pg2]; decide
  have l1 : look pt2.ents [97, 47, 98] = some 2 := by rw [pg2]; decide
  have l2 : look pt2.ents [99] = some 2 := by rw [pg2]; decide
  have f0 : first pt2 [] [97] = [] := rfl
  have f1 : first pt2 [[97]] [97, 47, 98] = [] := by unfold first T.alike; simp only [List.find?_cons, List.find?_nil, l0, l1]; decide
  have f2 : first pt2 [[97], [97, 47, 98]] [99] = [97, 47, 98] := by unfold first T.alike; simp only [List.find?_cons, List.find?_nil, l0, l1, l2]; decide
  unfold list
  rw [pnames]
  simp only [listGo, List.nil_append, List.cons_append]
  unfold memb
  rw [f0, f1, f2, nodeAt_of l0, nodeAt_of l1, nodeAt_of l2, pf1, pf2]
  rfl
end Pk
namespace Go.Proofs.YtipajekehbpghaaGreatDoor
open Go.RowKit Go.Maps Tre Pk

theorem pcs_nul (w : World) : Pcs w (.slice none 0 0) [] := ⟨none, 0, rfl, fun j hj => absurd hj (Nat.not_lt_zero j)⟩
theorem ok1 : EntOk pe1 := ⟨by decide, by decide, by decide, by decide, by decide⟩
theorem ok2 : EntOk pe2 := ⟨by decide, by decide, by decide, by decide, by decide⟩

set_option maxRecDepth 100000 in
set_option maxHeartbeats 8000000 in
theorem packed_any (w : World) (hm : ML w) : Calls Tryz.prog 14 #[] w fun e w' => e = .returned (.bool true) ∧ Below w.heap.size w w' := by
  have HM := Lib.hid hm
  have T0 := Lib.hid (empty_tree w)
  have B0 := Lib.hid ((Below.refl w.heap.size w).alloc (Nat.le_refl _) (.cells #[.map none, .map none, .int .i64 0] 71))
  have e0 : errV 0 = .nilIface := rfl
  have I1 := Lib.hid (into_any (hm.below B0.out) T0.out Std.none_ (by simp [none_]) pe1 (.slice none 0 0) (pcs_nul _) ok1)
  rw [pr1, e0, show (into none_ pe1).1 = pt1 from rfl] at I1
  unfold ev evc at I1
  simp only [pe1] at I1
  clear hm
  go_enter Tryz.func14, Tryz.ntmps14
  go_wp2_with fail
  refine I1.out.mono ?_
  rintro e w1 ⟨rfl, on1, of1, k1, k2, k3⟩
  have K1 : Hid (TreeAt w1 w.heap.size on1 of1 pt1) := Lib.hid k1
  have O1 := Lib.hid (show ∀ b ∈ own w.heap.size on1 of1, w.heap.size ≤ b from fun b hb => by
    rcases k2 b hb with h | h
    · simp [own] at h; omega
    · simp at h; omega)
  have B1 := Lib.hid (B0.out.trans (k3.down (B := w.heap.size) (fun b hb => by simp [own] at hb; omega) (by simp)))
  clear k1 k2 k3 I1
  have I2 := Lib.hid (into_any (HM.out.below B1.out) K1.out ps1 (by have := pn1; omega) pe2 (.slice none 0 0) (pcs_nul _) ok2)
  rw [pr2, e0, show (into pt1 pe2).1 = pt2 from rfl] at I2
  unfold ev evc at I2
  simp only [pe2] at I2
  go_wp2_with fail
  refine I2.out.mono ?_
  rintro e w2 ⟨rfl, on2, of2, k1, k2, k3⟩
  have K2 : Hid (TreeAt w2 w.heap.size on2 of2 pt2) := Lib.hid k1
  have B2 := Lib.hid (B1.out.trans (k3.down O1.out B1.out.size))
  clear k1 k2 k3 I2
  have LI := Lib.hid (list_any K2.out ps2 (by have := pn2; omega) (HM.out.below B2.out) false)
  rw [plist] at LI
  go_wp2_with fail
  refine LI.out.mono ?_
  rintro e w3 ⟨v, ps, rfl, hps, hen, h3⟩
  have B3 := Lib.hid (thenB B2.out h3)
  match ps, hps with
  | [(e0', m0), (e1', m1), (e2', m2)], hps =>
    have q0 : e0' = pl0 := by injection hps
    have q1 : e1' = pl1 := by injection hps with _ h; injection h
    have q2 : e2' = pl2 := by injection hps with _ h; injection h with _ h; injection h
    subst q0 q1 q2
    rcases hen.ways with ⟨_, h0⟩ | ⟨g, cap, rfl, _, hg, hc, _, _, hcell⟩
    · cases h0
    · have c0 : w3.cell? ⟨g, 0, none⟩ = some (.string ⟨#[97]⟩) := hcell 0 (by simp) 0 (by decide)
      have c1 : w3.cell? ⟨g, 1, none⟩ = some (.int .u8 53) := hcell 0 (by simp) 1 (by decide)
      have c2 : w3.cell? ⟨g, 2, none⟩ = some (.int .i64 493) := hcell 0 (by simp) 2 (by decide)
      have c28 : w3.cell? ⟨g, 28, none⟩ = some (.string ⟨#[120]⟩) := hcell 1 (by simp) 13 (by decide)
      have c31 : w3.cell? ⟨g, 31, none⟩ = some (.int .u8 49) := hcell 2 (by simp) 1 (by decide)
      have c38 : w3.cell? ⟨g, 38, none⟩ = some (.string ⟨#[97, 47, 98]⟩) := hcell 2 (by simp) 8 (by decide)
      have l3 : [(pl0, m0), (pl1, m1), (pl2, m2)].length = 3 := rfl
      rw [l3] at hc ⊢
      have hci : (3 : Int) ≤ cap := by omega
      clear hcell hps hen h3 l3 LI
      go_wp2_with fail
      go_ret
      exact ⟨rfl, B3.out⟩

end Go.Proofs.YtipajekehbpghaaGreatDoor

namespace Pk
open Pth Tre
theorem list_right {t : T} (ht : Std t) (holes : Bool) : ∀ e ∈ list t holes, rightE e = true := by
  unfold list
  rw [listGo_all]
  intro i hi
  obtain ⟨_, _, _, h, _⟩ := memb_ok ht holes (List.getElem_mem hi) (l := [] ++ t.names.take i) (fun x hx => by rw [List.nil_append] at hx; exact List.mem_of_mem_take hx)
  exact h
end Pk
namespace Go.Proofs.YtipajekehbpghaaGreatDoor
open Go.RowKit Go.Maps Tre Pk
theorem EntOk.of_right {e : Ent} (h : rightE e = true) : EntOk e := by
  obtain ⟨r1, r2, r3, r4⟩ := right_ent h
  obtain ⟨d1, d2⟩ := filled_data r4
  refine ⟨by omega, by omega, by omega, ?_, by omega⟩
  unfold filled at r4
  by_cases hk : e.kind = 48
  · rw [if_pos hk] at r4
    simp [inR] at r4
    omega
  · rw [if_neg hk] at r4
    simp at r4
    omega
end Go.Proofs.YtipajekehbpghaaGreatDoor
