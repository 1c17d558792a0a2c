/-
  The fact on times that every statement on times looks at.
-/
import Derived.Test.YtkhkjacnoiopcaaGreatDoorZao
import Derived.Laws.StructEq
import Derived.Test.YtkhkjacnoiopcaaGreatDoorZag
import Derived.Test.YtkhkjacnoiopcaaGreatDoorZah
import Derived.Test.YtkhkjacnoiopcaaGreatDoorZab
import Derived.Lib.Repeat
set_option linter.unusedVariables false
set_option linter.unusedSimpArgs false

set_option linter.unusedVariables false
set_option linter.unusedSimpArgs false
namespace Go.Proofs.YtkhkjacnoiopcaaGreatDoor
open Go.RowKit

end Go.Proofs.YtkhkjacnoiopcaaGreatDoor

set_option linter.unusedVariables false
set_option linter.unusedSimpArgs false
namespace Go.Proofs.YtkhkjacnoiopcaaGreatDoor
open Go.RowKit

end Go.Proofs.YtkhkjacnoiopcaaGreatDoor

set_option linter.unusedVariables false
set_option linter.unusedSimpArgs false
namespace Go.Proofs.YtkhkjacnoiopcaaGreatDoor
open Go.RowKit

end Go.Proofs.YtkhkjacnoiopcaaGreatDoor

set_option linter.unusedVariables false
set_option linter.unusedSimpArgs false
namespace Stp
open Go.Lib

theorem head_rest (below : Bool) (W R : Bs) (hw : dgs W) (hw0 : W ≠ []) :
    hasPrefix ((if below then [45] else []) ++ (W ++ R)) [45] = below ∧ rest ((if below then [45] else []) ++ (W ++ R)) = W ++ R ∧ trimPrefix ((if below then [45] else []) ++ (W ++ R)) [45] = W ++ R := by
  cases below
  · have : [45].isPrefixOf (W ++ R) = false := by
      cases W with
      | nil => exact absurd rfl hw0
      | cons x r =>
        have hx : x ≠ 45 := fun e => (dot_no hw).2 (by simp [e])
        simp [List.isPrefixOf]; exact fun e => hx e.symm
    refine ⟨this, ?_, ?_⟩
    · unfold rest
      simp only [Bool.false_eq_true, if_false, List.nil_append]
      rw [this]; rfl
    · unfold trimPrefix hasPrefix
      simp only [Bool.false_eq_true, if_false, List.nil_append]
      rw [this]; rfl
  · refine ⟨by simp [hasPrefix, List.isPrefixOf], ?_, ?_⟩
    · unfold rest
      simp [List.isPrefixOf]
    · unfold trimPrefix hasPrefix
      simp [List.isPrefixOf]

/-- What stands behind the sign. -/
def body (s n : Int) : Bs := decDigits (whl s n) ++ (if 0 < prt s n then 46 :: tail9 (prt s n) else [])
theorem text_is (s n : Int) : text s n = (if decide (s < 0) then [45] else []) ++ (decDigits (whl s n) ++ (if 0 < prt s n then 46 :: tail9 (prt s n) else [])) := by
  unfold text; rw [sgn_eq, List.append_assoc]
theorem text_parts {s n : Int} (h : Ok s n) : hasPrefix (text s n) [45] = decide (s < 0) ∧ rest (text s n) = body s n ∧ trimPrefix (text s n) [45] = body s n := by
  rw [text_is]
  exact head_rest _ _ _ (dec_dgs _).1 (dec_ne _)
theorem body_cut {s n : Int} : cut (body s n) [46] = (decDigits (whl s n), (if 0 < prt s n then tail9 (prt s n) else []), decide (0 < prt s n)) := by
  unfold body
  by_cases h0 : 0 < prt s n
  · rw [if_pos h0, if_pos h0, cut_at (dot_no (dec_dgs _).1).1, decide_eq_true h0]
  · rw [if_neg h0, if_neg h0, List.append_nil, cut_no (dot_no (dec_dgs _).1).1, decide_eq_false h0]
theorem whole_ok {s n : Int} (h : Ok s n) (z : Nat) : digB (List.replicate z 48 ++ decDigits (whl s n)) = true ∧ (trimLeftS (List.replicate z 48 ++ decDigits (whl s n)) [48]).length ≤ 15 ∧ (decDigits (whl s n)).length ≤ 13 := by
  have hw := (whl_le h).1
  have hl := dec_len (whl s n) (by omega)
  refine ⟨digB_of (dgs_app.2 ⟨zeros_dgs z, (dec_dgs _).1⟩) (by have := dec_ne (whl s n); simp [this]), ?_, hl⟩
  rw [dec_trim]
  split
  · simp
  · omega
theorem part_ok {s n : Int} (h : Ok s n) : (0 < prt s n → digB (tail9 (prt s n)) = true) ∧ (tail9 (prt s n)).length ≤ 9 ∧ tail9 (prt s n) ++ List.replicate (9 - (tail9 (prt s n)).length) 48 = dig9 (prt s n) := by
  obtain ⟨k, hk, hl, hd, hne⟩ := tail9_all (prt s n) (whl_le h).2
  refine ⟨fun h0 => digB_of hd (hne h0), by omega, ?_⟩
  rw [hk]
  congr 2; omega
theorem read_short {s n : Int} (h : Ok s n) : read (decide (s < 0)) (decDigits (whl s n)) (if 0 < prt s n then tail9 (prt s n) else []) = (s, n) := by
  have hp := (whl_le h).2
  by_cases h0 : 0 < prt s n
  · obtain ⟨k, hk, hl, hd, hne⟩ := tail9_all (prt s n) hp
    rw [if_pos h0]
    have hr := read_at h 0 (tail9 (prt s n)) (by rw [nine_of hl, ← hk]; exact (dig9_all _ hp).2.2) (.inl (by rw [decide_eq_false (by omega)]; rfl))
    rw [List.replicate_zero, List.nil_append] at hr
    exact hr
  · rw [if_neg h0]
    have hr := read_at h 0 [] (by have : prt s n = 0 := by omega
                                  rw [this]; rfl) (.inl rfl)
    rw [List.replicate_zero, List.nil_append] at hr
    exact hr
/-- The long text behind its sign. -/
def long (s n : Int) (z : Nat) (more : Bs) : Bs := (List.replicate z 48 ++ decDigits (whl s n)) ++ 46 :: (dig9 (prt s n) ++ more)
theorem dig_len {s n : Int} (h : Ok s n) : (dig9 (prt s n)).length = 9 ∧ dgs (dig9 (prt s n)) := ⟨(dig9_all _ (whl_le h).2).1, (dig9_all _ (whl_le h).2).2.1⟩

end Stp

set_option linter.unusedVariables false
set_option linter.unusedSimpArgs false
namespace Go.Proofs.YtkhkjacnoiopcaaGreatDoor
open Go.RowKit

theorem rep_named (c : UInt8) (k : Nat) (hk : k ≤ 1000000) : ∃ A : ByteArray, A.data.toList = List.replicate k c ∧ ∀ w : World, Calls Tryz.prog 62 #[.string ⟨#[c]⟩, .int .i64 k] w fun e w' => e = .returned (.string A) ∧ Below w.heap.size w w' := by
  refine ⟨⟨(Lib.repeatL [c] k).toArray⟩, ?_, fun w => Tryz.strings_Repeat ⟨#[c]⟩ k w (by omega) (by show 1 * k ≤ _; omega)⟩
  show Lib.repeatL [c] k = _
  have := Lib.repeatL_replicate c 1 k
  rw [Nat.mul_one] at this
  exact this

end Go.Proofs.YtkhkjacnoiopcaaGreatDoor

set_option linter.unusedVariables false
set_option linter.unusedSimpArgs false
namespace Go.Proofs.YtkhkjacnoiopcaaGreatDoor
open Go.RowKit

theorem text_len {s n : Int} (h : Stp.Ok s n) : (bs (Stp.text s n)).size ≤ 30 := by
  rw [bs_size, Stp.text_is]
  have h1 := (Stp.whole_ok h 0).2.2
  have h2 := (Stp.part_ok h).2.1
  rw [List.length_append, List.length_append]
  split <;> split <;> simp <;> omega

/-- Parse of a time's own text. -/
theorem parse_text {s n : Int} (h : Stp.Ok s n) (w : World) (hE : Env w) :
    Calls Tryz.prog 142 #[.string (bs (Stp.text s n))] w fun e w' => e = .returned (.tuple #[tm s n, .nilIface]) ∧ Below w.heap.size w w' := by
  have hp := Stp.part_ok h
  have hw := Stp.whole_ok h 0
  rw [List.replicate_zero, List.nil_append] at hw
  have := parse_any (bs (Stp.text s n)) (decide (s < 0)) (decide (0 < Stp.prt s n)) (Lib.decDigits (Stp.whl s n)) (if 0 < Stp.prt s n then Stp.tail9 (Stp.prt s n) else [])
    (by have := text_len h; omega) (by rw [bs_list]; exact (Stp.text_parts h).1) (by rw [bs_list, (Stp.text_parts h).2.1]; exact Stp.body_cut) hw.1
    (fun e => by have e := of_decide_eq_true e; rw [if_pos e]; exact hp.1 e) (fun e => by have e := of_decide_eq_false e; rw [if_neg e]) hw.2.1 (by have := hw.2.2; omega)
    (by have := hp.2.1; split <;> simp <;> omega) w hE
  rw [Stp.read_short h] at this
  unfold parsed at this
  rw [Stp.okB_of h, if_pos rfl] at this
  exact this

end Go.Proofs.YtkhkjacnoiopcaaGreatDoor

set_option linter.unusedVariables false
set_option linter.unusedSimpArgs false
namespace Go.Proofs.YtkhkjacnoiopcaaGreatDoor
open Go Pk

/-- x stands in s from off on. -/
def Here (s : Bl) (off : Nat) (x : Bl) : Prop := fld s off x.length = x ∧ off + x.length ≤ s.length
theorem fld_fld (s : Bl) (o n k m : Nat) (h : k + m ≤ n) : fld (fld s o n) k m = fld s (o + k) m := by
  apply List.ext_getElem?
  intro i
  rw [fld_get, fld_get s (o + k) m i]
  by_cases hi : i < m
  · rw [if_pos hi, if_pos hi, fld_get, if_pos (by omega)]; congr 1; omega
  · rw [if_neg hi, if_neg hi]
theorem Here.sub {s x : Bl} {off : Nat} (h : Here s off x) (k n : Nat) (hk : k + n ≤ x.length) : fld s (off + k) n = fld x k n := by
  rw [← fld_fld s off x.length k n hk, h.1]
theorem Here.left {s x y : Bl} {off : Nat} (h : Here s off (x ++ y)) : Here s off x := by
  have h2 := h.2
  rw [List.length_append] at h2
  refine ⟨?_, by omega⟩
  have := h.sub 0 x.length (by rw [List.length_append]; omega)
  rw [Nat.add_zero] at this
  rw [this]
  unfold fld
  rw [List.drop_zero, List.take_left]
theorem Here.right {s x y : Bl} {off : Nat} (h : Here s off (x ++ y)) : Here s (off + x.length) y := by
  have h2 := h.2
  rw [List.length_append] at h2
  refine ⟨?_, by omega⟩
  rw [h.sub x.length y.length (by rw [List.length_append]; omega)]
  unfold fld
  rw [List.drop_left, List.take_length]
theorem Here.fld {s x : Bl} {off n : Nat} (h : Here s off x) (hn : n = x.length) : fld s off n = x := by subst hn; exact h.1

theorem kind_of {d : Nat} {r : HRaw} {l : Bl} (h : HWrite d r l) (hd1 : 1 ≤ d) (hd4 : d ≤ 4) (hw : r.wf) : (fld l 156 1).headD 0 ≠ 0 := by
  have hk := h.1
  have hr := (write_read hd1 hd4 hw h).2.1
  intro h0
  obtain ⟨hk, _, ht, ls, hn, rfl⟩ := h
  rw [fld_sld _ (body_len hn ht) 156 1 (by omega)] at h0
  have h5 := body_fld hn ht ⟨156, 1, [r.kind]⟩ (by simp [allFds, kFds])
  simp only at h5
  rw [h5] at h0
  exact hk (by simpa using h0)
theorem hdr_of {d : Nat} {r : HRaw} {l : Bl} (h : HWrite d r l) (hd1 : 1 ≤ d) (hd4 : d ≤ 4) (hw : r.wf) : hdrB l = some r := hdrB_mk (write_right h) (kind_of h hd1 hd4 hw) (write_read hd1 hd4 hw h)

theorem bytes_here {s x : Bl} {off : Nat} (h : Here s off (Bk.fill x)) : bytesP s off x.length = some x := by
  have h2 := h.2
  rw [Bk.fill_len] at h2
  unfold bytesP
  rw [if_pos ⟨by omega, by rw [Int.toNat_natCast]; omega⟩, Int.toNat_natCast]
  rw [(Here.left (y := List.replicate (Bk.pad x.length) 0) h).1]

/-- What a header and its bytes are. -/
theorem written_is {d : Nat} {r : HRaw} {name link bytes m : Bl} (h : writtenM d r name link bytes = some m) : ∃ r' l, namedR d { r with link := link } name = some r' ∧ HWrite d r' l ∧ m = l ++ Bk.fill bytes := by
  unfold writtenM at h
  cases hn : namedR d { r with link := link } name with
  | none => rw [hn] at h; cases h
  | some r' =>
    rw [hn, Option.bind_some] at h
    cases hb : headB d r' with
    | none => rw [hb] at h; cases h
    | some l =>
      rw [hb] at h
      cases h
      exact ⟨r', l, rfl, headB_some.1 hb, rfl⟩
theorem split_join {n f b : Bl} (h : splitN n = some (f, b)) : (if f = [] then b else f ++ 47 :: b) = n := by
  unfold splitN at h
  split at h
  · cases h; rfl
  · cases hf : (List.range n.length).find? (spI n) with
    | none => rw [hf] at h; cases h
    | some i =>
      rw [hf] at h
      cases h
      have h1 := List.find?_some hf
      unfold spI at h1
      rw [Bool.and_eq_true, decide_eq_true_iff, beq_iff_eq] at h1
      obtain ⟨h47, h1, _, h3, _⟩ := h1
      obtain ⟨hi, h47⟩ := List.getElem?_eq_some_iff.1 h47
      rw [if_neg (by intro e; have := congrArg List.length e; rw [List.length_take, List.length_nil] at this; omega)]
      rw [← h47, ← List.drop_eq_getElem_cons hi, List.take_append_drop]
/-- A named header: what it was before but for the two names, which make the name. -/
theorem named_is {d : Nat} {r r' : HRaw} {n : Bl} (h : namedR d r n = some r') : ∃ f b, r' = { r with front := f, name := b } ∧ fullR r' = n ∧ (f = [] ∨ d = 2 ∨ d = 4) := by
  unfold namedR at h
  split at h
  · rename_i hd
    cases hs : splitN n with
    | none => rw [hs] at h; cases h
    | some p =>
      rw [hs] at h
      cases h
      obtain ⟨f, b⟩ := p
      exact ⟨f, b, rfl, split_join hs, .inr hd⟩
  · split at h
    · cases h
      exact ⟨[], n, rfl, rfl, .inl rfl⟩
    · cases h

theorem merge_nil : mergeP [] = [] := mergeP_is ⟨List.Pairwise.nil, fun k v => by simp [Px.lastV]⟩
theorem trimS_one {l : Bl} (h : l.getLast? ≠ some 47) : trimS (l ++ [47]) = l ∧ trimS l = l := by
  have h2 : (l.reverse.dropWhile (· == 47)).reverse = l := by
    cases hr : l.reverse with
    | nil => rw [List.reverse_eq_nil_iff] at hr; subst hr; rfl
    | cons c t =>
      have hc : c ≠ 47 := by
        intro e
        apply h
        rw [List.getLast?_eq_head?_reverse, hr, e]; rfl
      rw [List.dropWhile_cons, if_neg (by simpa using hc), ← hr, List.reverse_reverse]
  unfold trimS
  refine ⟨?_, h2⟩
  rw [List.reverse_append, List.reverse_singleton, List.singleton_append, List.dropWhile_cons, if_pos (by rfl)]
  exact h2
/-- What holds of a valid member. -/
theorem right_facts {e : Ent} (h : rightE e = true) : (48 ≤ e.kind ∧ e.kind ≤ 54) ∧ e.name ≠ [] ∧ e.name.getLast? ≠ some 47 ∧ (e.kind ≠ 49 → e.kind ≠ 50 → e.link = []) ∧ (isDev e.kind = false → e.major = 0 ∧ e.minor = 0) ∧ (e.kind ≠ 48 → e.size = 0 ∧ e.data = [] ∧ e.map = []) := by
  unfold rightE at h
  simp only [Bool.and_eq_true] at h
  obtain ⟨⟨⟨⟨⟨⟨⟨⟨h0, h0b⟩, h0c⟩, h1⟩, h2⟩, h3⟩, h4⟩, h5⟩, h6⟩ := h
  unfold Tre.inR at h0
  simp only [Bool.and_eq_true, decide_eq_true_iff] at h0
  refine ⟨⟨by omega, by omega⟩, by simpa using h0b, by simpa using h0c, fun a b => ?_, fun a => ?_, fun a => ?_⟩
  · have ha : (e.kind == 49 || e.kind == 50) = false := by simp [a, b]
    rw [ha] at h3
    simpa using h3
  · unfold isDev at a
    rw [a] at h5
    simpa using h5
  · unfold filled at h6
    rw [if_neg a] at h6
    simp only [Bool.and_eq_true, beq_iff_eq, List.isEmpty_iff] at h6
    exact ⟨h6.1.1, h6.1.2, h6.2⟩
/-- What a valid member keeps of itself. -/
theorem settled_keep {e : Ent} (h : rightE e = true) (n : Bl) (u : Bl) (hn : e.kind = 48 → n.getLast? ≠ some 47) : settledP { e with name := n, user := u } = { e with name := if e.kind = 53 then trimS n else n, user := u } := by
  obtain ⟨hkk, _, hl, hlink, hdev, hfile⟩ := right_facts h
  have hk : kindS { e with name := n, user := u } = e.kind := by
    unfold kindS
    rw [if_neg (by rintro ⟨a, b⟩; exact hn a b)]
  have h1 : (if e.kind = 48 then e.size else 0) = e.size := by
    split
    · rfl
    · rename_i a; exact (hfile a).1.symm
  have h2 : (if e.kind = 48 then e.data else []) = e.data := by
    split
    · rfl
    · rename_i a; exact (hfile a).2.1.symm
  have h3 : (if e.kind = 48 then e.map else []) = e.map := by
    split
    · rfl
    · rename_i a; exact (hfile a).2.2.symm
  have h4 : (if e.kind = 49 ∨ e.kind = 50 then e.link else []) = e.link := by
    split
    · rfl
    · rename_i a; exact (hlink (fun b => a (.inl b)) (fun b => a (.inr b))).symm
  have h5 : (if isDev e.kind = true then e.major else 0) = e.major := by
    split
    · rfl
    · rename_i a; exact (hdev (by simpa using a)).1.symm
  have h6 : (if isDev e.kind = true then e.minor else 0) = e.minor := by
    split
    · rfl
    · rename_i a; exact (hdev (by simpa using a)).2.symm
  unfold settledP
  rw [hk]
  simp only [h1, h2, h3, h4, h5, h6]
end Go.Proofs.YtkhkjacnoiopcaaGreatDoor

set_option linter.unusedVariables false
set_option linter.unusedSimpArgs false
namespace Pk
open Pth Tre

theorem filled_sparse {e : Ent} (h : filled e = true) (hs : sparse e = true) : Hol.rightI e.map e.size = true ∧ (e.data.length : Int) = sizeI e.map ∧ e.size ≤ 4000 := by
  unfold filled at h
  by_cases hk : e.kind = 48
  · rw [if_pos hk, hs] at h
    simp [inR] at h
    exact ⟨h.2.1, h.2.2, h.1.2⟩
  · rw [if_neg hk] at h
    simp at h
    unfold sparse at hs
    rw [h.1.1, h.1.2, h.2] at hs
    cases hs
theorem sizeI_asc {ps : List (Int × Int)} {z : Int} (h : Hol.rightI ps z = true) : 0 ≤ z ∧ ∃ qs : List Hol.Pc, ps = qs.map Hol.castP ∧ Hol.Asc z.toNat 0 qs ∧ qs.length ≤ 20 ∧ sizeI ps = (Hol.size qs : Int) ∧ (Hol.size qs : Int) ≤ z + 1 := by
  unfold Hol.rightI at h
  simp only [Bool.and_eq_true, decide_eq_true_eq] at h
  obtain ⟨⟨h0, h20⟩, hg⟩ := h
  have hz : z = ((z.toNat : Nat) : Int) := by omega
  rw [hz] at hg
  obtain ⟨qs, e, ha⟩ := Hol.right_asc z.toNat ps 0 hg
  have hs := Hol.asc_size z.toNat qs 0 ha (by omega)
  refine ⟨h0, qs, e, ha, ?_, ?_, by omega⟩
  · rw [e, List.length_map] at h20; exact h20
  · rw [e]; exact castP_size qs
theorem filled_data {e : Ent} (h : filled e = true) : e.data.length ≤ 4001 ∧ e.map.length ≤ 20 := by
  by_cases hs : sparse e = true
  · obtain ⟨h1, h2, h3⟩ := filled_sparse h hs
    obtain ⟨_, qs, c1, _, c3, c4, c5⟩ := sizeI_asc h1
    have : e.map.length = qs.length := by rw [c1, List.length_map]
    omega
  · have hs' : sparse e = false := by simpa using hs
    have hd := hs'
    unfold sparse at hd
    simp only [Bool.or_eq_false_iff, Bool.not_eq_false', List.isEmpty_iff, beq_iff_eq] at hd
    rw [hd.1]
    unfold filled at h
    by_cases hk : e.kind = 48
    · rw [if_pos hk] at h
      simp [inR] at h
      simp; omega
    · rw [if_neg hk] at h
      simp at h
      rw [h.1.2]; simp
end Pk

set_option linter.unusedVariables false
set_option linter.unusedSimpArgs false
namespace Go.Proofs.YtkhkjacnoiopcaaGreatDoor
open Go Pk

/-- The numbers of a valid member. -/
theorem right_nums {e : Ent} (h : rightE e = true) : (0 ≤ e.mode ∧ e.mode ≤ 4095) ∧ (0 ≤ e.uid ∧ e.uid ≤ 1099511627775) ∧ (0 ≤ e.gid ∧ e.gid ≤ 1099511627775) ∧ Stp.Ok e.sec e.nano ∧ (0 ≤ e.major ∧ e.major ≤ 2097151) ∧ (0 ≤ e.minor ∧ e.minor ≤ 2097151) := by
  unfold rightE at h
  simp only [Bool.and_eq_true] at h
  obtain ⟨⟨⟨⟨⟨⟨_, _⟩, h2⟩, _⟩, h4⟩, _⟩, _⟩ := h
  obtain ⟨⟨⟨a, b⟩, c⟩, d⟩ := h2
  obtain ⟨m1, m2⟩ := h4
  unfold Tre.inR at a b c m1 m2
  unfold Tre.stampR at d
  simp only [Bool.and_eq_true, decide_eq_true_iff] at a b c d m1 m2
  exact ⟨a, b, c, ⟨d.1.1.1, d.1.1.2, d.1.2, d.2⟩, m1, m2⟩
theorem right_texts {e : Ent} (h : rightE e = true) : (e.name.length ≤ 120 ∧ (0 : UInt8) ∉ e.name) ∧ (e.link.length ≤ 120 ∧ (0 : UInt8) ∉ e.link) ∧ (e.user.length ≤ 32 ∧ (0 : UInt8) ∉ e.user) ∧ (e.group.length ≤ 32 ∧ (0 : UInt8) ∉ e.group) := by
  unfold rightE at h
  simp only [Bool.and_eq_true] at h
  obtain ⟨⟨⟨⟨⟨⟨_, h1⟩, _⟩, _⟩, _⟩, _⟩, _⟩ := h
  obtain ⟨⟨⟨a, b⟩, c⟩, d⟩ := h1
  unfold txt at a b c d
  simp only [Bool.and_eq_true, decide_eq_true_iff, Bool.not_eq_true', List.contains_eq_mem, decide_eq_false_iff_not] at a b c d
  exact ⟨a, b, c, d⟩
theorem right_data {e : Ent} (h : rightE e = true) : e.data.length ≤ 4001 := by
  unfold rightE at h
  rw [Bool.and_eq_true] at h
  exact (filled_data h.2).1
theorem wf_plain {e : Ent} (h : rightE e = true) (k : UInt8) (n l f : Bl) (z : Int) (hz : i64 z) : (⟨n, l, e.user, e.group, f, k, e.mode, e.uid, e.gid, z, e.sec, e.major, e.minor⟩ : HRaw).wf := by
  obtain ⟨a, b, c, d, m1, m2⟩ := right_nums h
  obtain ⟨d1, d2, _, _⟩ := d
  unfold i64 at hz
  unfold HRaw.wf i64
  simp only
  omega
theorem kind_u8 {e : Ent} (h : rightE e = true) : e.kind.toUInt8.toNat = e.kind := by
  have := (right_facts h).1
  rw [Nat.toUInt8, UInt8.toNat_ofNat', Nat.mod_eq_of_lt (by omega)]

theorem kind_more {e : Ent} (h : rightE e = true) : isMore e.kind.toUInt8 = false := by
  have h1 := (right_facts h).1
  have h2 := kind_u8 h
  unfold isMore
  simp only [Bool.or_eq_false_iff, beq_eq_false_iff_ne]
  refine ⟨⟨⟨?_, ?_⟩, ?_⟩, ?_⟩ <;> (intro e2; have := congrArg UInt8.toNat e2; rw [h2] at this; simp at this; omega)

end Go.Proofs.YtkhkjacnoiopcaaGreatDoor
