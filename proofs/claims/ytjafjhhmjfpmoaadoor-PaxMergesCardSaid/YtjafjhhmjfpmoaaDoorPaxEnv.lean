/-
  What a row lists gives the library's world.
-/
import Derived.Test.YtjafjhhmjfpmoaaDoorPaxA
import Derived.Test.YtjafjhhmjfpmoaaDoorRows
import Derived.KernelRfl
namespace Go.Proofs.YtjafjhhmjfpmoaaDoor
open Go.RowKit

theorem iface_of_vars {P : Program} {W : World} {name : String} {d : DataW Unit} {rest : List (String × DataW Unit)} {ps : List MemPlace} {g : Nat} {t : TypeId} {ms : Array (String × TypeId)}
    (hg : P.globalNamed name = some g) (hty : (P.globals[g]?).map (·.type) = some t) (ht : P.underlying t = some (.interface ms))
    (h : DataW.LaidVars P W ((name, d) :: rest) ps) : ∃ ev, W.cell? ⟨g, 0, none⟩ = some ev ∧ (ev = .nilIface ∨ ∃ te pe, ev = .iface te pe) := by
  obtain ⟨g', t', cs, fuel, p, q, hg', ht', hvar, hd, _, _⟩ := h
  obtain rfl := Option.some.inj (hg.symm.trans hg')
  obtain rfl := Option.some.inj (hty.symm.trans ht')
  have hc := World.var?_cell hg hvar 0
  cases fuel with
  | zero => cases hd
  | succ fuel =>
    obtain ⟨l⟩ := cs
    unfold DataW.trod at hd
    rw [ht] at hd
    cases l with
    | nil => cases hd
    | cons v l =>
      cases l with
      | cons v2 l => cases v <;> cases hd
      | nil =>
        refine ⟨v, by simpa using hc, ?_⟩
        cases v <;> first | (exact .inl rfl) | (exact .inr ⟨_, _, rfl⟩) | (cases hd)

theorem env_of {l : List (String × DataW Unit)} {W : World} (h : laidMetH Tryd.prog l W)
    (hl : (l.filter fun x => x.1 == "internal/strconv.uint64pow10" || x.1 == "strconv.ErrSyntax") = [("internal/strconv.uint64pow10", Lib.tabData .u64 Lib.pow10Tab), ("strconv.ErrSyntax", Rows.laid_strconv_ErrSyntax)]) (hs : W.ShapedOpen Tryd.prog) : Env W := by
  have h1 := h.filter fun x => x.1 == "internal/strconv.uint64pow10" || x.1 == "strconv.ErrSyntax"
  rw [hl, MakeChecks.laidMetH_plain _ _ _ (by kernel_rfl)] at h1
  have h2 : ∃ ps, DataW.LaidVars Tryd.prog W [("strconv.ErrSyntax", Rows.laid_strconv_ErrSyntax)] ps := by
    obtain ⟨ps, ⟨_, _, _, _, _, q, _, _, _, _, hr, _⟩, _⟩ := h1
    exact ⟨q, hr⟩
  obtain ⟨ps, h3⟩ := h2
  exact ⟨Tryd.laysM219.s1_3 W hs, iface_of_vars (g := 1) (t := 25) (by kernel_rfl) (by kernel_rfl) Tryd.underlying25 h3, Lib.tabIs_of_head pow_no (t := 138) (e := 93) (n := 20) (by kernel_rfl) (by kernel_rfl) (by kernel_rfl) (by kernel_rfl) (by kernel_rfl) h1⟩

end Go.Proofs.YtjafjhhmjfpmoaaDoor
