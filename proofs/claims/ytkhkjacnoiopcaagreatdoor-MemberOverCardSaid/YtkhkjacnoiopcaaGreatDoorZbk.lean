/-
  Members as bytes, plain: records that count for all give a member its name and its user.
-/
import Derived.Test.YtkhkjacnoiopcaaGreatDoorZap
import Derived.Test.YtkhkjacnoiopcaaGreatDoorZar
import Derived.Test.YtkhkjacnoiopcaaGreatDoorZai
set_option linter.unusedVariables false
set_option linter.unusedSimpArgs false

set_option linter.unusedVariables false
set_option linter.unusedSimpArgs false
namespace Go.Proofs.YtkhkjacnoiopcaaGreatDoor
open Go Pk

def rootB : Bl := [114, 111, 111, 116]
def overG (name : Bl) : List Px.Rec := [(kPath, name), (kUser, rootB)]
/-- The member that is wanted. -/
def wantE (e : Ent) (name : Bl) : Ent := { e with name := if e.kind = 53 then trimS name else name, user := rootB }
theorem settled_over {e : Ent} {name : Bl} (h : rightE e = true) (hn : e.kind = 48 → name.getLast? ≠ some 47) : settledP { e with name := name, user := rootB } = wantE e name := settled_keep h name rootB hn
theorem over_merge {name : Bl} (h : name ≠ []) : mergeP (overG name) = overG name := by
  refine mergeP_is ⟨?_, fun k v => ?_⟩
  · unfold overG
    rw [List.pairwise_cons]
    refine ⟨fun q hq => ?_, List.pairwise_singleton _ _⟩
    rw [List.mem_singleton.1 hq]
    show kPath < kUser
    decide
  · have hp : (overG name).Pairwise fun p q => p.1 ≠ q.1 := by
      unfold overG
      rw [List.pairwise_cons]
      refine ⟨fun q hq => ?_, List.pairwise_singleton _ _⟩
      rw [List.mem_singleton.1 hq]
      show kPath ≠ kUser
      decide
    rw [Px.lastV_apart hp]
    refine ⟨fun hm => ⟨hm, ?_⟩, And.left⟩
    unfold overG at hm
    rcases List.mem_cons.1 hm with e | hm
    · rw [(Prod.mk.inj e).2]; exact h
    · rw [(Prod.mk.inj (List.mem_singleton.1 hm)).2]; decide

end Go.Proofs.YtkhkjacnoiopcaaGreatDoor

set_option linter.unusedVariables false
set_option linter.unusedSimpArgs false
namespace Go.Proofs.YtkhkjacnoiopcaaGreatDoor
open Go Pk

theorem hwrite_ex {d : Nat} {r : HRaw} (hk : r.kind ≠ 0) (hf : fitsD d r) (ht : r.tOk) (hn : ∀ i, i < manyD d → ∃ l, numW (d == 3) (nSpots[i]?.getD (0, 0)).2 (r.nums[i]?.getD 0) = some l) : ∃ l, HWrite d r l := by
  let g := fun i : Nat => (numW (d == 3) (nSpots[i]?.getD (0, 0)).2 (r.nums[i]?.getD 0)).getD []
  have hl : ((List.range (manyD d)).map g).length = manyD d := by rw [List.length_map, List.length_range]
  refine ⟨_, hk, hf, ht, (List.range (manyD d)).map g, ⟨hl, fun i hi => ?_⟩, rfl⟩
  rw [hl] at hi
  obtain ⟨l, e⟩ := hn i hi
  rw [List.getElem_map, List.getElem_range]
  show _ = some ((numW (d == 3) (nSpots[i]?.getD (0, 0)).2 (r.nums[i]?.getD 0)).getD [])
  rw [e]; rfl
theorem num_oct (bin : Bool) {W : Nat} {n : Int} (h0 : 0 ≤ n) (h1 : n ≤ Num.most W) : ∃ l, numW bin W n = some l := ⟨_, by unfold numW; rw [if_pos ⟨h0, h1⟩]⟩
theorem most8 : Num.most 8 = 2097151 := by decide
theorem most12 : Num.most 12 = 8589934591 := by decide

/-- A header that has room, named. -/
theorem written_ex {d : Nat} {r r' : HRaw} {name link bytes : Bl} (hn : namedR d { r with link := link } name = some r') (hw : ∃ l, HWrite d r' l) : ∃ m, writtenM d r name link bytes = some m := by
  obtain ⟨l, hl⟩ := hw
  unfold writtenM
  rw [hn, Option.bind_some, headB_some.2 hl]
  exact ⟨_, rfl⟩

theorem nums_pax {r : HRaw} (h1 : 0 ≤ r.mode ∧ r.mode ≤ 2097151) (h2 : 0 ≤ r.uid ∧ r.uid ≤ 2097151) (h3 : 0 ≤ r.gid ∧ r.gid ≤ 2097151) (h4 : 0 ≤ r.size ∧ r.size ≤ 8589934591) (h5 : 0 ≤ r.time ∧ r.time ≤ 8589934591) (h6 : 0 ≤ r.major ∧ r.major ≤ 2097151) (h7 : 0 ≤ r.minor ∧ r.minor ≤ 2097151) :
    ∀ i, i < manyD 4 → ∃ l, numW ((4 : Nat) == 3) (nSpots[i]?.getD (0, 0)).2 (r.nums[i]?.getD 0) = some l := by
  intro i hi
  have h : i < 7 := hi
  have m8 := most8
  have m12 := most12
  match i, h with
  | 0, _ => exact num_oct _ (W := 8) (n := r.mode) h1.1 (by omega)
  | 1, _ => exact num_oct _ (W := 8) (n := r.uid) h2.1 (by omega)
  | 2, _ => exact num_oct _ (W := 8) (n := r.gid) h3.1 (by omega)
  | 3, _ => exact num_oct _ (W := 12) (n := r.size) h4.1 (by omega)
  | 4, _ => exact num_oct _ (W := 12) (n := r.time) h5.1 (by omega)
  | 5, _ => exact num_oct _ (W := 8) (n := r.major) h6.1 (by omega)
  | 6, _ => exact num_oct _ (W := 8) (n := r.minor) h7.1 (by omega)

theorem pax_len {e : Ent} (h : rightE e = true) : (paxData e).length ≤ 14000 := by
  have hd := right_data h
  unfold paxData
  split
  · rename_i hs
    obtain ⟨_, hpc, h20, _⟩ := right_holes h hs
    have a := lines_len e.map hpc
    have b := (dec_size (n := ((e.map.length : Nat) : Int)) (by omega)).1
    have c : (linesL e.map).length = (decM e.map.length).length + 1 + (e.map.flatMap lineM).length := by unfold linesL; simp; omega
    have d := Bk.pad_lt (linesL e.map).length
    rw [List.length_append, lines_is, Bk.fill_len]
    omega
  · omega
end Go.Proofs.YtkhkjacnoiopcaaGreatDoor

set_option linter.unusedVariables false
set_option linter.unusedSimpArgs false
namespace Go.Proofs.YtkhkjacnoiopcaaGreatDoor
open Go Pk

theorem fill_512 (l : Bl) : (Bk.fill l).length % 512 = 0 := by rw [Bk.fill_len]; unfold Bk.pad; omega
theorem fill_most (l : Bl) : (Bk.fill l).length ≤ l.length + 511 := by rw [Bk.fill_len]; have := Bk.pad_lt l.length; omega
theorem written_512 {d : Nat} {r : HRaw} {n l x m : Bl} (h : writtenM d r n l x = some m) : m.length % 512 = 0 ∧ m.length ≤ x.length + 1023 ∧ 512 ≤ m.length := by
  obtain ⟨r', k, _, hwr, rfl⟩ := written_is h
  have h1 := fill_512 x
  have h2 := fill_most x
  rw [List.length_append, write_len hwr]
  omega
theorem long_512 {s : Bl} {k : UInt8} {p : Bl × Bl} (h : longM s k = some p) : p.1.length % 512 = 0 ∧ p.1.length ≤ s.length + 1024 ∧ p.2.length ≤ 100 := by
  unfold longM at h
  split at h
  · rename_i hl
    cases h
    exact ⟨rfl, by simp, hl⟩
  · obtain ⟨w, hw, rfl⟩ := Option.map_eq_some_iff.1 h
    obtain ⟨a, b, _⟩ := written_512 hw
    rw [List.length_append, List.length_singleton] at b
    exact ⟨a, by simp only; omega, by simp only [List.length_take]; omega⟩
theorem blocks_512 : ∀ (f : Nat) (l : List (Int × Int)), (holesBlocksF f l).length % 512 = 0 ∧ (holesBlocksF f l).length ≤ 1024 * f
  | 0, l => ⟨rfl, by simp [holesBlocksF]⟩
  | f + 1, l => by
    unfold holesBlocksF
    split
    · exact ⟨rfl, by simp⟩
    · obtain ⟨a, b⟩ := blocks_512 f (l.drop 21)
      have c := fill_512 (rowM l 21 ++ [moreM l 21])
      have d := fill_most (rowM l 21 ++ [moreM l 21])
      rw [List.length_append, rowM_len, List.length_singleton] at d
      rw [List.length_append]
      omega
/-- A member is whole blocks. -/
theorem mem_512 {d : Nat} {e : Ent} {m : Bl} (h : memM d e = some m) : m.length % 512 = 0 ∧ m.length ≤ 60000 := by
  unfold memM at h
  split at h
  · cases h
  rename_i hr
  have h0 : rightE e = true := by cases hx : rightE e <;> simp_all
  have hd := right_data h0
  obtain ⟨n1, _⟩ := name_texts h0
  obtain ⟨_, ⟨l1, _⟩, _⟩ := right_texts h0
  split at h
  · unfold gnuM at h
    split at h
    · cases h
    obtain ⟨lk, hlk, h⟩ := Option.bind_eq_some_iff.1 h
    obtain ⟨nm, hnm, h⟩ := Option.bind_eq_some_iff.1 h
    obtain ⟨a1, a2, _⟩ := long_512 hlk
    obtain ⟨b1, b2, _⟩ := long_512 hnm
    split at h
    · obtain ⟨w, hw, rfl⟩ := Option.map_eq_some_iff.1 h
      obtain ⟨c1, c2, _⟩ := written_512 hw
      simp only [List.length_append]
      omega
    · rename_i hs
      have hs1 : sparse e = true := by cases hx : sparse e <;> simp_all
      obtain ⟨_, _, h20, _⟩ := right_holes h0 hs1
      obtain ⟨w, hw, rfl⟩ := Option.map_eq_some_iff.1 h
      obtain ⟨r', k, _, hwr, rfl⟩ := written_is hw
      have hk := write_len hwr
      have hfe : Bk.fill ([] : Bl) = [] := rfl
      rw [hfe, List.append_nil]
      have hsl := Bk.seal_len _ (head_len e hk)
      obtain ⟨c1, c2⟩ := blocks_512 (e.map.drop 4).length (e.map.drop 4)
      have hl4 : (e.map.drop 4).length ≤ 20 := by rw [List.length_drop]; omega
      have d1 := fill_512 e.data
      have d2 := fill_most e.data
      unfold holesBlocksM
      simp only [List.length_append, hsl]
      omega
  · split at h
    · unfold paxM at h
      obtain ⟨o, ho, h⟩ := Option.bind_eq_some_iff.1 h
      obtain ⟨w, hw, rfl⟩ := Option.map_eq_some_iff.1 h
      obtain ⟨c1, c2, _⟩ := written_512 hw
      have hz := pax_len h0
      have ho2 : o.length % 512 = 0 ∧ o.length ≤ 3000 := by
        unfold extM at ho
        split at ho
        · cases ho; exact ⟨rfl, by simp⟩
        · obtain ⟨_, hl⟩ := rec_read h0
          obtain ⟨e1, e2, _⟩ := written_512 ho
          omega
      rw [List.length_append]
      omega
    · unfold oldM at h
      split at h
      · cases h
      · have : m.length % 512 = 0 ∧ m.length ≤ e.data.length + 1023 := by
          split at h
          · split at h
            · cases h
            · obtain ⟨a, b, _⟩ := written_512 h; exact ⟨a, b⟩
          · obtain ⟨a, b, _⟩ := written_512 h; exact ⟨a, b⟩
        omega
end Go.Proofs.YtkhkjacnoiopcaaGreatDoor

set_option linter.unusedVariables false
set_option linter.unusedSimpArgs false
namespace Go.Proofs.YtkhkjacnoiopcaaGreatDoor
open Go Pk

theorem old_facts {e : Ent} {m s : Bl} {off : Nat} (g : List Px.Rec) (h : rightE e = true) (hm : oldM 2 e = some m) (hs : Here s off m) :
    ∃ r : HRaw, hdrB (fld s off 512) = some r ∧ isMore r.kind = false ∧ off + 512 ≤ s.length ∧ (r.name.length ≤ 1000000 ∧ r.front.length ≤ 1000000) ∧ r.size = e.data.length ∧ bytesP s (off + 512) r.size = some e.data ∧
      firstE ⟨off, none, none, [], g⟩ r = { e with name := nameM e, data := [], map := [] } ∧ ((off + 512 : Nat) : Int) + r.size + (Bk.pad r.size.toNat : Nat) = ((off + m.length : Nat) : Int) ∧ e.map = [] ∧ e.size = e.data.length ∧ e.nano = 0 := by
  unfold oldM at hm
  split at hm
  · cases hm
  rename_i hsp
  have hsp1 : sparse e = false := by cases hx : sparse e <;> simp_all
  have hn0 : e.nano = 0 := by by_cases hx : e.nano = 0; exact hx; exact absurd (.inr hx) hsp
  rw [if_neg (by decide)] at hm
  obtain ⟨r', l, hnm, hwr, rfl⟩ := written_is hm
  obtain ⟨fr, b, rfl, hfull, _⟩ := named_is hnm
  have hl := write_len hwr
  have hd := right_data h
  have hwf := wf_plain h e.kind.toUInt8 b e.link fr e.data.length (by unfold i64; omega)
  have hb : Here s (off + 512) (Bk.fill e.data) := by have := hs.right; rw [hl] at this; exact this
  have hs2 : e.map = [] ∧ e.size = e.data.length := by
    unfold sparse at hsp1
    simp only [Bool.or_eq_false_iff, Bool.not_eq_false', List.isEmpty_iff, beq_iff_eq] at hsp1
    exact ⟨hsp1.1, hsp1.2.symm⟩
  have hu8 := kind_u8 h
  have hkk := (right_facts h).1
  have hk55 : (if e.kind.toUInt8 = 55 then 48 else e.kind.toUInt8.toNat) = e.kind := by
    rw [if_neg (by intro e2; have := congrArg UInt8.toNat e2; rw [hu8] at this; simp at this; omega), hu8]
  have hf := hwr.2.2.1
  have hlen := hs.left.2
  rw [hl] at hlen
  refine ⟨_, ?_, kind_more h, hlen, ⟨Nat.le_trans hf.1.1 (by omega), Nat.le_trans hf.2.2.2.2.1 (by omega)⟩, rfl, bytes_here hb, ?_, ?_, hs2.1, hs2.2, hn0⟩
  · rw [hs.left.fld hl.symm]
    exact hdr_of hwr (by omega) (by omega) hwf
  · unfold firstE
    obtain ⟨n, k, mode, uid, gid, size, sec, nano, link, user, group, major, minor, data, map⟩ := e
    simp only at *
    obtain ⟨rfl, rfl⟩ := hs2
    subst hn0
    have hx : (none : Option Bl).getD (fullR ⟨b, link, user, group, fr, k.toUInt8, mode, uid, gid, data.length, sec, major, minor⟩) = nameM ⟨n, k, mode, uid, gid, (data.length : Int), sec, 0, link, user, group, major, minor, data, []⟩ := hfull
    have hy : ∀ (p p' : Bl) (q q' : Nat), p = p' → q = q' → (⟨p, q, mode, uid, gid, (data.length : Int), sec, 0, link, user, group, major, minor, [], []⟩ : Ent) = ⟨p', q', mode, uid, gid, (data.length : Int), sec, 0, link, user, group, major, minor, [], []⟩ := by
      rintro p p' q q' rfl rfl
      rfl
    exact hy _ _ _ _ hx hk55
  · show ((off + 512 : Nat) : Int) + ((e.data.length : Nat) : Int) + (Bk.pad ((e.data.length : Nat) : Int).toNat : Nat) = _
    rw [List.length_append, hl, Bk.fill_len, Int.toNat_natCast]
    omega

/-- The fixed member. -/
def toldE : Ent := ⟨[97], 48, 420, 0, 0, 2, 5, 0, [], [], [], 0, 0, [104, 105], []⟩
def zeroE : Ent := ⟨[], 0, 0, 0, 0, 0, 0, 0, [], [], [], 0, 0, [], []⟩
theorem told_right : rightE toldE = true := by decide
theorem nums_two {r : HRaw} (h1 : 0 ≤ r.mode ∧ r.mode ≤ 2097151) (h2 : 0 ≤ r.uid ∧ r.uid ≤ 2097151) (h3 : 0 ≤ r.gid ∧ r.gid ≤ 2097151) (h4 : 0 ≤ r.size ∧ r.size ≤ 8589934591) (h5 : 0 ≤ r.time ∧ r.time ≤ 8589934591) (h6 : 0 ≤ r.major ∧ r.major ≤ 2097151) (h7 : 0 ≤ r.minor ∧ r.minor ≤ 2097151) :
    ∀ i, i < manyD 2 → ∃ l, numW ((2 : Nat) == 3) (nSpots[i]?.getD (0, 0)).2 (r.nums[i]?.getD 0) = some l := nums_pax h1 h2 h3 h4 h5 h6 h7
theorem told_some : ∃ m, memM 2 toldE = some m ∧ m.length = 1024 := by
  have h2 : ∃ m, oldM 2 toldE = some m := by
    unfold oldM
    rw [if_neg (by decide), if_neg (by decide)]
    refine written_ex (r' := { ({ plainM toldE with link := toldE.link } : HRaw) with front := [], name := [97] }) rfl (hwrite_ex (by decide) ⟨fun h => absurd h (by decide), fun h => absurd h (by decide)⟩ ⟨⟨by decide, by decide⟩, ⟨by decide, by decide⟩, ⟨by decide, by decide⟩, ⟨by decide, by decide⟩, ⟨by decide, by decide⟩⟩ (nums_two (by decide) (by decide) (by decide) (by decide) (by decide) (by decide) (by decide)))
  obtain ⟨m, hm⟩ := h2
  refine ⟨m, ?_, ?_⟩
  · unfold memM
    rw [if_neg (by rw [told_right]; decide), if_neg (by decide), if_neg (by decide)]
    exact hm
  · unfold oldM at hm
    rw [if_neg (by decide), if_neg (by decide)] at hm
    obtain ⟨r', l, _, hw, rfl⟩ := written_is hm
    rw [List.length_append, write_len hw, Bk.fill_len]
    decide
theorem apply_over (e : Ent) (name : Bl) : applyP (overG name) e = some { e with name := name, user := rootB } := by
  unfold overG
  rfl
theorem over_nomajor (name : Bl) : (Px.getV (overG name) kMajor).1 ≠ [49] := by
  unfold overG Px.getV Px.lastV Px.lastV Px.lastV
  simp [kPath, kUser, kMajor]
theorem recs_over {off : Nat} {name : Bl} (h : name ≠ []) : recsP ⟨off, none, none, [], overG name⟩ = overG name := by
  unfold recsP
  simp only [List.append_nil]
  exact over_merge h
theorem recs_none {off : Nat} : recsP ⟨off, none, none, [], []⟩ = [] := merge_nil

end Go.Proofs.YtkhkjacnoiopcaaGreatDoor

set_option linter.unusedVariables false
set_option linter.unusedSimpArgs false
namespace Go.Proofs.YtkhkjacnoiopcaaGreatDoor
open Go.RowKit Tre Pk

/-- Row b from off on holds the members ps. -/
def RowE (W : World) (b off : Nat) (ps : List (Ent × Value)) : Prop := ∀ (j : Nat) (hj : j < ps.length) (k : Nat), k < 15 → W.cell? ⟨b, off + j * 15 + k, none⟩ = (evc ps[j].1 ps[j].2)[k]?
theorem RowE.below {W W' : World} {b off D : Nat} {ps : List (Ent × Value)} (h : RowE W b off ps) (hb : Below D W W') (hD : b < D) : RowE W' b off ps := fun j hj k hk => (hb.cell (p := ⟨b, off + j * 15 + k, none⟩) hD).trans (h j hj k hk)
/-- A slice of members that can be read, and their pieces. -/
structure EntsAt (W : World) (v : Value) (ps : List (Ent × Value)) : Prop where
  row : ∃ A cap, v = .slice A ps.length cap ∧ ps.length ≤ cap ∧ (ps = [] ∨ ∃ b off, A = some ⟨b, off, none⟩ ∧ b < W.heap.size ∧ RowE W b off ps)
  pc : ∀ p ∈ ps, Pcs W p.2 p.1.map
theorem EntsAt.below {W W' : World} {v : Value} {ps : List (Ent × Value)} (h : EntsAt W v ps) (hb : Below W.heap.size W W') : EntsAt W' v ps := by
  obtain ⟨⟨A, cap, e, hc, hr⟩, hp⟩ := h
  refine ⟨⟨A, cap, e, hc, hr.imp id fun ⟨b, off, ea, hlt, hr⟩ => ⟨b, off, ea, Nat.lt_of_lt_of_le hlt hb.size, hr.below hb hlt⟩⟩, fun p hm => (hp p hm).below hb⟩
/-- The cells of the j-th member. -/
theorem RowE.at_ {W : World} {b off : Nat} {ps : List (Ent × Value)} (h : RowE W b off ps) {j : Nat} (hj : j < ps.length) {e : Ent} {mv : Value} (he : ps[j] = (e, mv)) : ∀ k, k < 15 → W.cell? ⟨b, off + j * 15 + k, none⟩ = (evc e mv)[k]? := fun k hk => by
  rw [h j hj k hk, he]

end Go.Proofs.YtkhkjacnoiopcaaGreatDoor
