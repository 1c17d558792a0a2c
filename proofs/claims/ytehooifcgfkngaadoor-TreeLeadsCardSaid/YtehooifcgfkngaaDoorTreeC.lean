/-
  (*Tree).Links, Names, inside.
-/
import Derived.Test.YtehooifcgfkngaaDoorTreeB
import Derived.Test.YtehooifcgfkngaaDoorTreeS
import Derived.Test.YtehooifcgfkngaaDoorStrRow
import Derived.Deep.LoopGhost
namespace Go.Proofs.YtehooifcgfkngaaDoor
open Go.RowKit Go.Maps Tre

def encE (p : Pth.Bs × Nat) : Lit × Value := (.string p.1, .int .i64 (p.2 : Int))
theorem whole_perm {E : List (Pth.Bs × Nat)} (hE : Apart E) {ds : List (Lit × Value)} (h : Whole (namesF E) ds) : ds.Perm (E.map encE) := by
  obtain ⟨h1, h2, h3⟩ := h
  refine (List.perm_ext_iff_of_nodup ?_ ?_).2 fun p => ?_
  · rw [List.nodup_iff_pairwise_ne]
    exact h1.imp fun hne e => hne (by rw [e])
  · rw [List.nodup_iff_pairwise_ne, List.pairwise_map]
    exact hE.imp fun hne e => hne (by unfold encE at e; injection e with e _; injection e)
  · constructor
    · intro hp
      have h4 := h2 p hp
      obtain ⟨kl, v⟩ := p
      cases kl with
      | string x =>
        simp only at h4
        rw [namesF_at] at h4
        obtain ⟨k, hk, rfl⟩ := Option.map_eq_some_iff.1 h4
        exact List.mem_map.2 ⟨(x, k), look_mem hk, rfl⟩
      | _ => cases h4
    · intro hp
      obtain ⟨q, hq, rfl⟩ := List.mem_map.1 hp
      refine h3 (.string q.1) trivial _ ?_
      rw [namesF_at, look_of hE hq]; rfl
theorem names_key {E : List (Pth.Bs × Nat)} {key v : Value} {kl : Lit} (hk : keyOf Tryd.prog 9 key = some kl) (hv : namesF E kl = some v) :
    ∃ (x : ByteArray) (k : Nat), key = .string x ∧ kl = .string x.data.toList ∧ Tre.look E x.data.toList = some k ∧ v = .int .i64 (k : Int) := by
  obtain ⟨x, rfl, rfl, _⟩ := WideMaps.string_of_keyOf Tryd.underlying9 hk
  rw [namesF_at] at hv
  obtain ⟨k, h1, h2⟩ := Option.map_eq_some_iff.1 hv
  exact ⟨x, k, rfl, rfl, h1, h2.symm⟩
def likeB (t : T) (s : Pth.Bs) (p : Lit × Value) : Bool := match p.1 with | .string x => t.alike s x | _ => false
theorem count_links {t : T} (ht : Apart t.ents) (s : Pth.Bs) {ds : List (Lit × Value)} (h : Whole (namesF t.ents) ds) : (ds.filter (likeB t s)).length = t.links s := by
  rw [((whole_perm ht h).filter _).length_eq, List.filter_map, List.length_map]
  rfl
theorem count_snoc (t : T) (s x : Pth.Bs) (v : Value) (ds : List (Lit × Value)) : ((ds ++ [(Lit.string x, v)]).filter (likeB t s)).length = (ds.filter (likeB t s)).length + (if t.alike s x = true then 1 else 0) := by
  rw [List.filter_append, List.length_append]
  congr 1
  by_cases h : t.alike s x = true
  · rw [if_pos h, List.filter_cons_of_pos (by exact h)]; rfl
  · rw [if_neg h, List.filter_cons_of_neg (by exact h)]; rfl
set_option maxRecDepth 100000 in
set_option maxHeartbeats 2000000 in
theorem links_any {w : World} {g : Nat} {on of : Option Nat} {t : T} (h : TreeAt w g on of t) (ht : Std t) (s : ByteArray) (hs : s.size ≤ 1000000) :
    Calls Tryd.prog 12 #[.pointer (some ⟨g, 0, none⟩), .string s] w fun e w' => e = .returned (.int .i64 (t.links s.data.toList)) ∧ Below w.heap.size w w' := by
  have c0 := h.blk.cell 0
  have HT := Lib.hid h
  have HS := Lib.hid ht
  have hc60 := ht.cn
  clear h ht
  go_enter Tryd.func12, Tryd.ntmps12
  go_wp2_with fail
  refine (of_any g w HT.out.blk).mono ?_
  rintro e w' ⟨rfl, hw⟩
  subst w'
  go_wp2_with (first
    | (refine wpList_o_range rfl (.tmp 11) 55 rfl 3 strL Tryd.underlying55 HT.out.nm rfl ?_; intro w0 hr0 hb0 hs0; have HR0 := Lib.hid hr0; have HB0 := Lib.hid hb0; have HS0 := Lib.hid hs0; clear hr0 hb0 hs0))
  go_frame
  go_loopg [5] t.ents.length (fun gg s5 wr => ∃ ds, s5 = .int .i64 ((ds.filter (likeB t s.data.toList)).length : Nat) ∧ Hid (RangeO wr Tryd.prog 9 on w.heap.size (namesF t.ents) t.ents.length ds gg) ∧ Hid (Below w.heap.size w wr) ∧ ds.length + gg ≤ 60)
  case atStart => exact ⟨[], rfl, HR0, HB0, by simpa using hc60⟩
  case round =>
    obtain ⟨ds, rfl, HR, HB, hlen⟩ := hrel
    have hfl : (ds.filter (likeB t s.data.toList)).length ≤ ds.length := List.length_filter_le _ _
    obtain ⟨n5, hn5⟩ : ∃ n5, n5 = (ds.filter (likeB t s.data.toList)).length := ⟨_, rfl⟩
    rw [← hn5] at hfl ⊢
    have HN := Lib.hid hn5
    have hn6 : (n5 : Int) ≤ 60 := by omega
    clear hn5
    repeat' ((fail_if_success (with_reducible refine halt_at 3 ?_)); first | go_values | go_skip | go_guarded | go_step | go_upon | go_back | (simp only [Int.not_lt, Int.not_le] at *; go_simp) | (go_values <;> (try go_simp)) | (go_ite <;> go_prune <;> (try go_simp)) | (split <;> (first | (rename_i hx; exact (hx _ rfl).elim) | go_prune)))
    go_wp2_with (first
      | (refine wpList_o_next rfl (.tmp 12) rfl strL HR.out rfl (fun hc hwh => ?_) (fun key v kl w2 cnt2 hkey hfk hnin hrg hlt hgr hsz hen => ?_)))
    · go_ret
      have := count_links HS.out.nd s.data.toList hwh
      rw [HN.out, this]
      exact ⟨rfl, HB.out⟩
    · obtain ⟨x, k, rfl, rfl, hlk, rfl⟩ := names_key hkey hfk
      have AL := Lib.hid (alike_any (HT.out.below (HB.out.trans (below_of_only (Below.refl _ _) hgr HB.out.size (Nat.le_refl _)))) s x hs (by
        have := (HS.out.short hlk).1; rw [list_size] at this; omega))
      have HB2 := Lib.hid (HB.out.trans (below_of_only (Below.refl _ _) hgr HB.out.size (Nat.le_refl _)))
      have HR2 := Lib.hid hrg
      have HLT := Lib.hid hlt
      have SN := Lib.hid (count_snoc t s.data.toList x.data.toList (.int .i64 k) ds)
      obtain ⟨q, hq⟩ : ∃ q, q = t.alike s.data.toList x.data.toList := ⟨_, rfl⟩
      rw [← hq] at AL SN
      clear hlk hnin hrg hlt hgr hsz hq hkey hfk
      go_wp2_with fail
      refine AL.out.mono ?_
      rintro e w3 ⟨rfl, hw⟩
      subst w3
      cases q
      · go_wp2_with fail
        go_roundg cnt2
        case measure => exact HLT.out
        case rel => exact ⟨_, by rw [SN.out, ← HN.out]; rfl, HR2, HB2, by have := HLT.out; simp; omega⟩
      · go_wp2_with fail
        go_roundg cnt2
        case measure => exact HLT.out
        case rel => exact ⟨_, by rw [SN.out, ← HN.out]; go_num, HR2, HB2, by have := HLT.out; simp; omega⟩

end Go.Proofs.YtehooifcgfkngaaDoor
