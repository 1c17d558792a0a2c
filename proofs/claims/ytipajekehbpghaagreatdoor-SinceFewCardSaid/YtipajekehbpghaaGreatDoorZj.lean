/-
  pack.linked: where a hard link leads.
-/
import Derived.Test.YtipajekehbpghaaGreatDoorZi
import Derived.Test.YtipajekehbpghaaGreatDoorZf
import Derived.Test.YtipajekehbpghaaGreatDoorZa
import Derived.Test.YtipajekehbpghaaGreatDoorZg
import Derived.Laws.Rows
import Derived.Laws.ResultCell
set_option linter.unusedVariables false
set_option linter.unusedSimpArgs false

namespace Go.Proofs.YtipajekehbpghaaGreatDoor
open Go.RowKit Go.Maps Tre Pk

set_option maxRecDepth 100000 in
set_option maxHeartbeats 8000000 in
theorem linked_any {w : World} {g : Nat} {on of : Option Nat} {t : T} (h : TreeAt w g on of t) (ht : Std t) (hx : t.nx ≤ 100000) (hm : ML w) (e : Ent) (mv : Value) (hl : e.link.length ≤ 100000) :
    Calls Tryz.prog 116 #[.pointer (some ⟨g, 0, none⟩), ev e mv] w fun en w' => en = .returned (.tuple #[.string (bs (Pk.linked t e).1), errV (Pk.linked t e).2]) ∧ Below w.heap.size w w' := by
  have B1 := Lib.hid ((Below.refl w.heap.size w).alloc (Nat.le_refl _) (.cells (evc e mv) 40))
  have KB := Lib.hid (Blk.new w 40 (evc e mv))
  have hnn : ∀ s k, Tre.look t.ents s = some k → k ≤ 1000000 := fun s k h => by have := (ht.short h).2; omega
  have hcl := Pth.clean_len e.link
  have CL := Lib.hid (fun w' (hb : Below w.heap.size w w') => clean_any (bs e.link) w' (by rw [bs_size]; omega) (hm.below hb))
  rw [bs_list] at CL
  obtain ⟨c, hc⟩ : ∃ c, c = Pth.clean e.link := ⟨_, rfl⟩
  obtain ⟨ok, hok⟩ : ∃ ok, ok = Pth.cleanOk e.link := ⟨_, rfl⟩
  have RT := Lib.hid (fun w' (hb : Below w.heap.size w w') => right_any (bs c) w' (by rw [bs_size, hc]; omega) (hm.below hb))
  rw [bs_list] at RT
  have GT := Lib.hid (fun w' (hb : Below w.heap.size w w') => get_any (h.below hb) (bs c) (fun k hk => hnn _ k hk) (by rw [bs_size, hc]; omega))
  have hL : Pk.linked t e = (if ok = false then (([] : Pth.Bs), (5 : Int)) else if c = [] then ([], 7) else if Pth.right c = false then ([], 5) else match t.get c with | none => ([], 7) | some n => if n.kind = 53 then ([], 6) else (c, 0)) := by rw [hok, hc]; rfl
  obtain ⟨R, hR⟩ : ∃ R, R = Pk.linked t e := ⟨_, rfl⟩
  rw [← hc, ← hok] at CL
  rw [← hR] at hL ⊢
  have HL := Lib.hid hL
  obtain ⟨n, k, m1, m2, m3, z, s, na, l, u, gr, mj, mn, d, mp⟩ := e
  unfold evc at B1 KB
  unfold ev evc
  simp only at CL KB B1 ⊢
  have c8 := KB.out.cell 8
  have p0 := KB.out.lt
  simp only [List.getElem?_toArray, List.getElem?_cons_zero, List.getElem?_cons_succ] at c8
  clear hL hR hc hok hcl hnn h ht hm hx hl
  go_enter Tryz.func116, Tryz.ntmps116
  go_wp2_with fail
  refine (CL.out _ B1.out).mono ?_
  rintro en w1 ⟨rfl, h1⟩
  have B2 := Lib.hid (thenB B1.out h1)
  clear h1 CL c8 p0 KB
  cases ok with
  | false =>
    have er : R = ([], 5) := by rw [HL.out, if_pos rfl]
    subst er
    go_wp2_with fail
    go_ret2
    exact ⟨rfl, B2.out⟩
  | true =>
    have hL := HL.out
    rw [if_neg (by simp)] at hL
    by_cases c0 : c = []
    · have hde : (bs c).toList.isEmpty = true := by rw [List.isEmpty_iff]; exact (str_nil c).2 c0
      have hdn : (bs c).toList = [] := (str_nil c).2 c0
      rw [if_pos c0] at hL
      subst hL
      clear c0
      go_wp2_with fail
      go_ret2
      exact ⟨rfl, B2.out⟩
    · have hde : (bs c).toList.isEmpty = false := by rw [← Bool.not_eq_true, List.isEmpty_iff]; exact fun e => c0 ((str_nil c).1 e)
      have hdn : ¬ (bs c).toList = [] := fun e => c0 ((str_nil c).1 e)
      rw [if_neg c0] at hL
      clear c0
      cases hr : Pth.right c with
      | false =>
        rw [if_pos hr] at hL
        rw [hr] at RT
        subst hL
        clear hr
        go_wp2_with fail
        refine (RT.out _ B2.out).mono ?_
        rintro en w2 ⟨rfl, h2⟩
        have B3 := Lib.hid (thenB B2.out h2)
        clear h2
        go_wp2_with fail
        go_ret2
        exact ⟨rfl, B3.out⟩
      | true =>
        rw [if_neg (by simp [hr])] at hL
        rw [hr] at RT
        clear hr
        have HL2 := Lib.hid hL
        clear hL HL
        go_wp2_with fail
        refine (RT.out _ B2.out).mono ?_
        rintro en w2 ⟨rfl, h2⟩
        have B3 := Lib.hid (thenB B2.out h2)
        have G3 := Lib.hid (GT.out _ B3.out)
        clear h2 RT GT
        rcases hlk : Tre.look t.ents c with _ | kk
        · have hgv : getV t (bs c).data.toList = .tuple #[ndv zero, .iface 89 (.int .i64 7)] := getV_none (by rw [bs_list]; exact hlk)
          rw [hgv] at G3
          have er : R = ([], 7) := by rw [HL2.out]; unfold T.get; rw [hlk]; rfl
          unfold ndv ndc zero at G3
          simp only at G3
          subst er
          clear hgv hlk
          go_wp2_with fail
          refine G3.out.mono ?_
          rintro en w4 ⟨rfl, h4⟩
          have B4 := Lib.hid (thenB B3.out h4)
          clear h4
          go_wp2_with fail
          go_ret2
          exact ⟨rfl, B4.out.alloc B4.out.size _⟩
        · have hgv : getV t (bs c).data.toList = .tuple #[ndv (t.file kk), .nilIface] := getV_of (by rw [bs_list]; exact hlk)
          rw [hgv] at G3
          obtain ⟨nd, hnd⟩ : ∃ nd, nd = t.file kk := ⟨_, rfl⟩
          have er : R = if nd.kind = 53 then ([], 6) else (c, 0) := by rw [HL2.out, get_of hlk, hnd]
          rw [← hnd] at G3
          obtain ⟨m0, q1, q2, q3, q4, q5, q6, q7, q8, q9⟩ := nd
          unfold ndv ndc at G3
          simp only at G3 er
          clear hgv hlk hnd
          have HER := Lib.hid er
          clear er HL2
          go_wp2_with fail
          refine G3.out.mono ?_
          rintro en w4 ⟨rfl, h4⟩
          have B4 := Lib.hid (thenB B3.out h4)
          have d0 := (Blk.new w4 33 #[.int .u8 m0, .int .i64 q1, .int .i64 q2, .int .i64 q3, .int .i64 q4, .int .i64 q5, .string (bs q6), .string (bs q7), .int .i64 q8, .int .i64 q9]).cell 0
          simp only [List.getElem?_toArray, List.getElem?_cons_zero] at d0
          clear h4
          by_cases h53 : m0 = 53
          · have er := HER.out
            rw [if_pos h53] at er
            subst er h53
            go_wp2_with fail
            go_ret2
            exact ⟨rfl, B4.out.alloc B4.out.size _⟩
          · have er := HER.out
            rw [if_neg h53] at er
            have e1 : ((m0 : Int) == 53) = false := beq_eq_false_iff_ne.2 (by omega)
            have e2 : ¬ (m0 : Int) = 53 := by omega
            subst er
            clear HER h53
            go_wp2_with fail
            go_ret2
            exact ⟨rfl, B4.out.alloc B4.out.size _⟩

end Go.Proofs.YtipajekehbpghaaGreatDoor

namespace Go.Proofs.YtipajekehbpghaaGreatDoor
open Go.RowKit Go.Maps Tre Pk

theorem Turned.next {w w' w'' : World} {g : Nat} {on of on' of' : Option Nat} {u : T} (h1 : ∀ b ∈ own g on' of', b ∈ own g on of ∨ w.heap.size ≤ b) (hk : Kept (own g on of) w w') (h : Turned w' g on' of' u w'') : Turned w g on of u w'' := by
  obtain ⟨n, f, a, b, c⟩ := h
  refine ⟨n, f, a, fun x hx => (b x hx).elim (h1 x) (fun hh => .inr (Nat.le_trans hk.size hh)), c.os.trans hk.os, c.tape.trans hk.tape, c.output.trans hk.output, Nat.le_trans hk.size c.size, fun x hx hn => ?_⟩
  exact (c.block x (Nat.lt_of_lt_of_le hx hk.size) (fun hm => (h1 x hm).elim hn (fun hh => by omega))).trans (hk.block x hx hn)
theorem join_snoc' {P : List Pth.Bs} (h : P ≠ []) (p : Pth.Bs) : Pth.join (P ++ [p]) = Pth.join P ++ 47 :: p := by
  rw [Pth.join_app h (by simp)]; rfl
theorem pre_succ {P : List Pth.Bs} {k : Nat} (h1 : 1 ≤ k) (hk : k < P.length) : pre P (k + 1) = pre P k ++ 47 :: P[k] := by
  unfold pre
  rw [List.take_succ_eq_append_getElem hk, join_snoc' (List.ne_nil_of_length_pos (by rw [List.length_take]; omega))]
theorem pre_one {P : List Pth.Bs} (hk : 0 < P.length) : pre P 1 = P[0] := by
  unfold pre
  rw [List.take_succ_eq_append_getElem hk]; rfl
theorem above_drop {s : Pth.Bs} {k : Nat} (h : k < (Pth.parts s).length - 1) : (above s).drop k = pre (Pth.parts s) (k + 1) :: (above s).drop (k + 1) := by
  have hl : (above s).length = (Pth.parts s).length - 1 := by unfold above; rw [List.length_map, List.length_range]
  rw [List.drop_eq_getElem_cons (by omega)]
  congr 1
  unfold above
  rw [List.getElem_map, List.getElem_range]

theorem ways_nil (t : T) : Pk.ways t [] = (t, 0) := rfl
theorem ways_make {t : T} {a : Pth.Bs} {r : List Pth.Bs} (h : t.get a = none) (hc : (act t (mkdir a)).2 = 0) : Pk.ways t (a :: r) = Pk.ways (act t (mkdir a)).1 r := by
  show (match t.get a with | none => _ | some n => _) = _
  rw [h]
  show (if _ then _ else _) = _
  rw [if_neg (by simp [hc])]
theorem ways_fail {t : T} {a : Pth.Bs} {r : List Pth.Bs} (h : t.get a = none) (hc : (act t (mkdir a)).2 ≠ 0) : Pk.ways t (a :: r) = act t (mkdir a) := by
  show (match t.get a with | none => _ | some n => _) = _
  rw [h]
  show (if _ then _ else _) = _
  rw [if_pos hc]
theorem ways_file {t : T} {a : Pth.Bs} {r : List Pth.Bs} {n : Nd} (h : t.get a = some n) (hk : n.kind ≠ 53) : Pk.ways t (a :: r) = (t, 6) := by
  show (match t.get a with | none => _ | some n => _) = _
  rw [h]
  show (if _ then _ else _) = _
  rw [if_pos hk]
theorem ways_dir {t : T} {a : Pth.Bs} {r : List Pth.Bs} {n : Nd} (h : t.get a = some n) (hk : n.kind = 53) : Pk.ways t (a :: r) = Pk.ways t r := by
  show (match t.get a with | none => _ | some n => _) = _
  rw [h]
  show (if _ then _ else _) = _
  rw [if_neg (by simp [hk])]
theorem cleared_bad {t u : T} {s : Pth.Bs} {c : Int} (dir : Bool) (h : Pk.ways t (above s) = (u, c)) (hc : c ≠ 0) : cleared t s dir = (u, c) := by
  unfold cleared
  rw [h, if_pos hc]
theorem cleared_ok {t u : T} {s : Pth.Bs} (dir : Bool) (h : Pk.ways t (above s) = (u, 0)) : cleared t s dir = wiped u s dir := by
  unfold cleared
  rw [h, if_neg (by simp)]

theorem wid_le {P : List Pth.Bs} {k : Nat} (hk : k < P.length) : (P[k]).length ≤ (pre P (k + 1)).length := by
  by_cases h0 : k = 0
  · subst h0; rw [pre_one hk]; exact Nat.le_refl _
  · rw [pre_succ (by omega) hk, List.length_append, List.length_cons]; omega

/-- What stands in the round of cleared's loop. -/
structure Mid (w0 w wr : World) (g : Nat) (on of n' f' : Option Nat) (t tk : T) (s : Pth.Bs) (k b off : Nat) : Prop where
  at_ : TreeAt wr g n' f' tk
  st : Std tk
  nx : tk.nx ≤ t.nx + k
  ws : Pk.ways t (above s) = Pk.ways tk ((above s).drop k)
  ow : ∀ x ∈ own g n' f', x ∈ own g on of ∨ w.heap.size ≤ x
  o0 : ∀ x ∈ own g n' f', w0.heap.size ≤ x
  kp : Kept (own g on of) w wr
  bl : Below w0.heap.size w0 wr
  ro : RowS wr b off (Pth.parts s)
  lt : b < wr.heap.size
  ap : b ∉ own g n' f'
theorem Mid.below {w0 w wr wr' : World} {g : Nat} {on of n' f' : Option Nat} {t tk : T} {s : Pth.Bs} {k b off : Nat} (h : Mid w0 w wr g on of n' f' t tk s k b off) (hb : Below wr.heap.size wr wr') : Mid w0 w wr' g on of n' f' t tk s k b off :=
  ⟨h.at_.below hb, h.st, h.nx, h.ws, h.ow, h.o0, h.kp.below hb, thenB h.bl hb, h.ro.below hb h.lt, Nat.lt_of_lt_of_le h.lt hb.size, h.ap⟩
theorem Mid.pass {w0 w wr : World} {g : Nat} {on of n' f' : Option Nat} {t tk : T} {s : Pth.Bs} {k b off : Nat} (h : Mid w0 w wr g on of n' f' t tk s k b off) (hw : Pk.ways t (above s) = Pk.ways tk ((above s).drop (k + 1))) : Mid w0 w wr g on of n' f' t tk s (k + 1) b off :=
  ⟨h.at_, h.st, by have := h.nx; omega, hw, h.ow, h.o0, h.kp, h.bl, h.ro, h.lt, h.ap⟩
theorem Mid.step {w0 w wr wr' : World} {g : Nat} {on of n' f' n2 f2 : Option Nat} {t tk u : T} {s : Pth.Bs} {k b off : Nat} (h : Mid w0 w wr g on of n' f' t tk s k b off)
    (h1 : TreeAt wr' g n2 f2 u) (h2 : ∀ x ∈ own g n2 f2, x ∈ own g n' f' ∨ wr.heap.size ≤ x) (h3 : Kept (own g n' f') wr wr') (hs : Std u) (hx : u.nx ≤ tk.nx + 1) (hw : Pk.ways t (above s) = Pk.ways u ((above s).drop (k + 1))) : Mid w0 w wr' g on of n2 f2 t u s (k + 1) b off := by
  have hT := Turned.next h.ow h.kp (⟨n2, f2, h1, h2, h3⟩ : Turned wr g n' f' u wr')
  have hb := h.bl.trans (h3.down h.o0 h.bl.size)
  refine ⟨h1, hs, by have := h.nx; omega, hw, fun x hx => (h2 x hx).elim (h.ow x) (fun hh => .inr (Nat.le_trans h.kp.size hh)), fun x hx => (h2 x hx).elim (h.o0 x) (fun hh => Nat.le_trans h.bl.size hh), ?_, hb, ?_, Nat.lt_of_lt_of_le h.lt h3.size, fun hm => (h2 b hm).elim h.ap (fun hh => by have := h.lt; omega)⟩
  · refine ⟨h3.os.trans h.kp.os, h3.tape.trans h.kp.tape, h3.output.trans h.kp.output, Nat.le_trans h.kp.size h3.size, fun x hx hn => ?_⟩
    exact (h3.block x (Nat.lt_of_lt_of_le hx h.kp.size) (fun hm => (h.ow x hm).elim hn (fun hh => by omega))).trans (h.kp.block x hx hn)
  · exact Kept.row h.ro h3 h.lt h.ap

set_option maxRecDepth 100000 in
set_option maxHeartbeats 8000000 in
theorem cleared_any {w0 w : World} {g : Nat} {on of : Option Nat} {t : T} (hm : ML w0) (h0 : Below w0.heap.size w0 w) (hO : ∀ b ∈ own g on of, w0.heap.size ≤ b) (h : TreeAt w g on of t) (ht : Std t) (hx : t.nx ≤ 90000) (s : Pth.Bs) (hs : Pth.right s = true) (dir : Bool) :
    Calls Tryz.prog 114 #[.pointer (some ⟨g, 0, none⟩), .string (bs s), .bool dir] w fun en w' => en = .returned (errV (cleared t s dir).2) ∧ Turned w g on of (cleared t s dir).1 w' := by
  have hsl := (right_len hs).1
  have hpl := (right_len hs).2
  have hcl := (right_cl hs).1
  have hp0 := right_pos hs
  have hj := right_join hs
  have HM := Lib.hid hm
  have PR := Lib.hid (parts_row (bs s) w (by rw [bs_size]; omega) (hm.below h0))
  rw [bs_list] at PR
  have HT := Lib.hid h
  have HO := Lib.hid hO
  have HB0 := Lib.hid h0
  have HS := Lib.hid ht
  have HX := Lib.hid hx
  have hlt := Lib.hid (fun b hb => h.lt b hb)
  obtain ⟨R, hR⟩ : ∃ R, R = cleared t s dir := ⟨_, rfl⟩
  rw [← hR]
  have HR := Lib.hid hR
  obtain ⟨P, hP⟩ : ∃ P, P = Pth.parts s := ⟨_, rfl⟩
  rw [← hP] at PR hpl hcl hp0 hj
  have HP := Lib.hid hP
  have hpi : (P.length : Int) ≤ 12 := by omega
  have hpi1 : (1 : Int) ≤ P.length := by omega
  have hpre : ∀ k, (pre P k).length ≤ 120 := fun k => by have := pre_length P k; rw [hj] at this; omega
  have HPRE := Lib.hid hpre
  have HCL := Lib.hid hcl
  clear hm h0 hO h ht hx hR hP hj hs hpre hcl
  go_enter Tryz.func114, Tryz.ntmps114
  go_wp2_with fail
  refine PR.out.mono ?_
  rintro e w1 ⟨b, cap, rfl, hcap, hbw, hbl, hrow, h1⟩
  have hci : (P.length : Int) ≤ cap := by omega
  have M0 := Lib.hid (show Mid w0 w w1 g on of on of t t s 0 b 0 from ⟨HT.out.below h1, HS.out, Nat.le_refl _, rfl, fun x hx => .inl hx, HO.out, .of_below h1, thenB HB0.out h1, by rw [← HP.out]; exact hrow, hbl, fun hm => by have := hlt.out b hm; omega⟩)
  obtain ⟨n1, hn1⟩ : ∃ n1 : Nat, P.length = n1 + 1 := ⟨P.length - 1, by omega⟩
  have hni : (P.length : Int) - 1 = (n1 : Int) := by omega
  have HN := Lib.hid hn1
  have hn12 : (n1 : Int) ≤ 12 := by omega
  have hnc : (n1 : Int) ≤ cap := by omega
  clear h1 PR hrow hbw hbl
  go_wp2_with fail
  go_loopg [8, 24] (n1) (fun gg sv iv wr => ∃ (k : Nat) (tk : T) (n' f' : Option Nat), sv = .string (bs (pre P k)) ∧ iv = .int .i64 k ∧ k + gg = n1 ∧ Hid (Mid w0 w wr g on of n' f' t tk s k b 0))
  case atStart => exact ⟨0, t, on, of, rfl, rfl, by omega, M0⟩
  case round =>
    obtain ⟨k, tk, n', f', rfl, rfl, hg, MD⟩ := hrel
    have HG := Lib.hid hg
    have hkn : k ≤ n1 := by omega
    have hnn : Hid (∀ s k, Tre.look tk.ents s = some k → k ≤ 1000000) := Lib.hid (fun s k h => by have := (MD.out.st.short h).2; have := MD.out.nx; have := HX.out; omega)
    clear hg
    by_cases hk : k < n1
    · have hki : (k : Int) < n1 := by omega
      have hkp : k < P.length := by have := HN.out; omega
      have ck : wr.cell? ⟨b, k, none⟩ = some (.string (bs P[k])) := by
        have := MD.out.ro
        rw [← HP.out] at this
        have := this k hkp
        rwa [Nat.zero_add] at this
      obtain ⟨a, ha⟩ : ∃ a, a = pre P (k + 1) := ⟨_, rfl⟩
      have hal : a.length ≤ 120 := by rw [ha]; exact HPRE.out _
      have hdrop : (above s).drop k = a :: (above s).drop (k + 1) := by
        rw [above_drop (by rw [← HP.out]; have := HN.out; omega), ← HP.out, ha]
      have WS := Lib.hid (show Pk.ways t (above s) = Pk.ways tk (a :: (above s).drop (k + 1)) by rw [MD.out.ws, hdrop])
      have GT := Lib.hid (get_any MD.out.at_ (bs a) (fun k hk => hnn.out _ k hk) (by rw [bs_size]; omega))
      obtain ⟨p, hp⟩ : ∃ p, p = P[k] := ⟨_, rfl⟩
      rw [← hp] at ck
      have hplen : p.length ≤ 120 := by
        have h1 := wid_le hkp
        rw [← hp] at h1
        have := HPRE.out (k + 1)
        omega
      by_cases hk0 : k = 0
      focus
        have hde : (bs (pre P k)).toList.isEmpty = true := by rw [List.isEmpty_iff, hk0]; exact (str_nil _).2 rfl
        have hdn : (bs (pre P k)).toList = [] := by rw [hk0]; exact (str_nil _).2 rfl
        have hu := fun w => run_string_add_sum (P := Tryz.prog) (w := w) (bs (pre P k)) (bs p) (by rw [bs_size, bs_size]; have := HPRE.out k; omega)
        rw [cat_bs, show pre P k ++ p = a by rw [ha, hk0, hp]; subst hk0; rw [pre_one hkp]; rfl] at hu
        have HAK := Lib.hid ha
        clear hp hdrop hk0 ha
        repeat' ((fail_if_success (with_reducible refine halt_at 9 ?_)); first | go_values | go_skip | go_guarded | go_step | go_upon | go_back | (simp only [Int.not_lt, Int.not_le] at *; go_simp) | (go_values <;> (try go_simp)) | (go_ite <;> go_prune <;> (try go_simp)) | (split <;> (first | (rename_i hx; exact (hx _ rfl).elim) | go_prune)))
      rotate_left
      focus
        have hne : pre P k ≠ [] := pre_ne HCL.out (by omega) (by omega)
        have hde : (bs (pre P k)).toList.isEmpty = false := by rw [← Bool.not_eq_true, List.isEmpty_iff]; exact fun e => hne ((str_nil _).1 e)
        have hdn : ¬ (bs (pre P k)).toList = [] := fun e => hne ((str_nil _).1 e)
        have hu1 := fun w => run_string_add_sum (P := Tryz.prog) (w := w) (bs (pre P k)) ⟨#[47]⟩ (by rw [bs_size]; show _ + 1 ≤ _; have := HPRE.out k; omega)
        have e47 : (⟨#[47]⟩ : ByteArray) = bs [47] := rfl
        have hu2 := fun w => run_string_add_sum (P := Tryz.prog) (w := w) (bs (pre P k ++ [47])) (bs p) (by rw [bs_size, bs_size, List.length_append]; have := HPRE.out k; simp; omega)
        rw [cat_bs, show (pre P k ++ [47]) ++ p = a by rw [ha, hp, pre_succ (by omega) hkp, List.append_assoc]; rfl] at hu2
        rw [show bs (pre P k) ++ (⟨#[47]⟩ : ByteArray) = bs (pre P k ++ [47]) by rw [e47, cat_bs]] at hu1
        have HAK := Lib.hid ha
        clear hp hdrop hk0 ha e47 hne
        repeat' ((fail_if_success (with_reducible refine halt_at 9 ?_)); first | go_values | go_skip | go_guarded | go_step | go_upon | go_back | (simp only [Int.not_lt, Int.not_le] at *; go_simp) | (go_values <;> (try go_simp)) | (go_ite <;> go_prune <;> (try go_simp)) | (split <;> (first | (rename_i hx; exact (hx _ rfl).elim) | go_prune)))
      all_goals
        rcases hlk : Tre.look tk.ents a with _ | kk
        · have hgv : getV tk (bs a).data.toList = .tuple #[ndv zero, .iface 89 (.int .i64 7)] := getV_none (by rw [bs_list]; exact hlk)
          rw [hgv] at GT
          have hgn : tk.get a = none := by unfold T.get; rw [hlk]; rfl
          unfold ndv ndc zero at GT
          simp only at GT
          clear hgv hlk hde hdn ck
          go_wp2_with fail
          refine GT.out.mono ?_
          rintro e w5 ⟨rfl, h5⟩
          have M5 := MD.out.below (h5.alloc h5.size (.cells #[.int .u8 0, .int .i64 0, .int .i64 0, .int .i64 0, .int .i64 0, .int .i64 0, .string (bs []), .string (bs []), .int .i64 0, .int .i64 0] 33))
          have MD5 := Lib.hid M5
          have DO := Lib.hid (do_tree M5.at_ M5.st (by have := M5.nx; have := HX.out; omega) (HM.out.below M5.bl) (mkdir a) (by show 53 ≤ 255; decide) (by show a.length ≤ 10000; omega) (Nat.zero_le _) (Nat.zero_le _) (Nat.zero_le _))
          obtain ⟨C, hC⟩ : ∃ C, C = act tk (mkdir a) := ⟨_, rfl⟩
          rw [← hC] at DO
          have HC := Lib.hid hC
          unfold dv dvc mkdir at DO
          simp only at DO
          clear M5 h5 hC GT
          go_wp2_with fail
          refine DO.out.mono ?_
          rintro e w6 ⟨rfl, n2, f2, k1, k2, k3⟩
          by_cases hc : C.2 = 0
          · have e1 : errV C.2 = .nilIface := by rw [hc]; rfl
            have M6 := Lib.hid (MD5.out.step k1 k2 k3 (by rw [HC.out]; exact MD5.out.st.act _) (by rw [HC.out]; exact (act_nx _ _).1) (by rw [WS.out, ways_make hgn (by rw [← HC.out]; exact hc), ← HC.out]))
            rw [e1]
            clear e1 hc k1 k2 k3 hgn DO
            go_wp2_with fail
            go_roundg (n1 - (k + 1))
            case measure => have := HG.out; omega
            case rel => exact ⟨k + 1, C.1, n2, f2, by rw [HAK.out], by go_num, by omega, M6⟩
          · have e1 : errV C.2 = .iface 89 (.int .i64 C.2) := if_neg hc
            have er : R = C := by rw [HR.out, cleared_bad dir (u := C.1) (c := C.2) (by rw [WS.out, ways_fail hgn (by rw [← HC.out]; exact hc), ← HC.out]) hc]
            have TH := Lib.hid (Turned.next MD5.out.ow MD5.out.kp (⟨n2, f2, k1, k2, k3⟩ : Turned _ g n' f' C.1 w6))
            have HE := Lib.hid e1
            rw [e1]
            subst er
            clear e1 hc k1 k2 k3 hgn DO
            go_wp2_with fail
            go_ret
            exact ⟨by rw [HE.out]; rfl, TH.out⟩
        · have hgv : getV tk (bs a).data.toList = .tuple #[ndv (tk.file kk), .nilIface] := getV_of (by rw [bs_list]; exact hlk)
          rw [hgv] at GT
          have hgn : tk.get a = some (tk.file kk) := get_of hlk
          obtain ⟨nd, hnd⟩ : ∃ nd, nd = tk.file kk := ⟨_, rfl⟩
          rw [← hnd] at GT hgn
          obtain ⟨m0, q1, q2, q3, q4, q5, q6, q7, q8, q9⟩ := nd
          unfold ndv ndc at GT
          simp only at GT
          have HGN := Lib.hid hgn
          clear hgv hlk hde hdn ck hnd hgn
          go_wp2_with fail
          refine GT.out.mono ?_
          rintro e w5 ⟨rfl, h5⟩
          have MD5 := Lib.hid (MD.out.below (h5.alloc h5.size (.cells #[.int .u8 m0, .int .i64 q1, .int .i64 q2, .int .i64 q3, .int .i64 q4, .int .i64 q5, .string (bs q6), .string (bs q7), .int .i64 q8, .int .i64 q9] 33)))
          have d0 := (Blk.new w5 33 #[.int .u8 m0, .int .i64 q1, .int .i64 q2, .int .i64 q3, .int .i64 q4, .int .i64 q5, .string (bs q6), .string (bs q7), .int .i64 q8, .int .i64 q9]).cell 0
          simp only [List.getElem?_toArray, List.getElem?_cons_zero] at d0
          clear h5 GT
          by_cases h53 : m0 = 53
          · have M6 := Lib.hid (MD5.out.pass (by rw [WS.out, ways_dir HGN.out h53]))
            subst h53
            go_wp2_with fail
            go_roundg (n1 - (k + 1))
            case measure => have := HG.out; omega
            case rel => exact ⟨k + 1, tk, n', f', by rw [HAK.out], by go_num, by omega, M6⟩
          · have er : R = (tk, 6) := by rw [HR.out, cleared_bad dir (by rw [WS.out, ways_file HGN.out h53]) (by decide)]
            have e1 : ((m0 : Int) == 53) = false := beq_eq_false_iff_ne.2 (by omega)
            have e2 : ((m0 : Int) != 53) = true := by rw [bne_iff_ne]; omega
            subst er
            clear h53
            go_wp2_with fail
            go_ret
            exact ⟨rfl, n', f', MD5.out.at_, MD5.out.ow, MD5.out.kp⟩
    · have hki : ¬ (k : Int) < n1 := by omega
      have hkk : k = n1 := by omega
      have hal : (above s).length = n1 := by unfold above; rw [List.length_map, List.length_range, ← HP.out]; have := HN.out; omega
      have er0 : R = wiped tk s dir := by rw [HR.out, cleared_ok dir (u := tk) (by rw [MD.out.ws, List.drop_eq_nil_of_le (by omega), ways_nil])]
      have HER := Lib.hid er0
      have GT := Lib.hid (get_any MD.out.at_ (bs s) (fun k hk => hnn.out _ k hk) (by rw [bs_size]; omega))
      clear hkk hal er0
      rcases hlk : Tre.look tk.ents s with _ | kk
      · have hgv : getV tk (bs s).data.toList = .tuple #[ndv zero, .iface 89 (.int .i64 7)] := getV_none (by rw [bs_list]; exact hlk)
        rw [hgv] at GT
        have er : R = (tk, 0) := by rw [HER.out]; unfold wiped T.get; rw [hlk]; rfl
        unfold ndv ndc zero at GT
        simp only at GT
        clear hgv hlk HER
        subst er
        go_wp2_with fail
        refine GT.out.mono ?_
        rintro e w5 ⟨rfl, h5⟩
        have MD5 := Lib.hid (MD.out.below (h5.alloc h5.size (.cells #[.int .u8 0, .int .i64 0, .int .i64 0, .int .i64 0, .int .i64 0, .int .i64 0, .string (bs []), .string (bs []), .int .i64 0, .int .i64 0] 33)))
        clear h5 GT
        go_wp2_with fail
        go_ret
        exact ⟨rfl, n', f', MD5.out.at_, MD5.out.ow, MD5.out.kp⟩
      · have hgv : getV tk (bs s).data.toList = .tuple #[ndv (tk.file kk), .nilIface] := getV_of (by rw [bs_list]; exact hlk)
        rw [hgv] at GT
        obtain ⟨nd, hnd⟩ : ∃ nd, nd = tk.file kk := ⟨_, rfl⟩
        have er : R = if nd.kind = 53 then (if dir = true then (tk, 0) else (tk, 6)) else act tk (rmv s) := by rw [HER.out]; unfold wiped; rw [get_of hlk, hnd]
        rw [← hnd] at GT
        obtain ⟨m0, q1, q2, q3, q4, q5, q6, q7, q8, q9⟩ := nd
        unfold ndv ndc at GT
        simp only at GT er
        have HE2 := Lib.hid er
        clear hgv hlk hnd er HER
        go_wp2_with fail
        refine GT.out.mono ?_
        rintro e w5 ⟨rfl, h5⟩
        have MD5 := Lib.hid (MD.out.below (h5.alloc h5.size (.cells #[.int .u8 m0, .int .i64 q1, .int .i64 q2, .int .i64 q3, .int .i64 q4, .int .i64 q5, .string (bs q6), .string (bs q7), .int .i64 q8, .int .i64 q9] 33)))
        have d0 := (Blk.new w5 33 #[.int .u8 m0, .int .i64 q1, .int .i64 q2, .int .i64 q3, .int .i64 q4, .int .i64 q5, .string (bs q6), .string (bs q7), .int .i64 q8, .int .i64 q9]).cell 0
        simp only [List.getElem?_toArray, List.getElem?_cons_zero] at d0
        clear h5 GT
        by_cases h53 : m0 = 53
        · have er := HE2.out
          rw [if_pos h53] at er
          subst h53
          clear HE2
          cases dir with
          | true =>
            rw [if_pos rfl] at er
            subst er
            go_wp2_with fail
            go_ret
            exact ⟨rfl, n', f', MD5.out.at_, MD5.out.ow, MD5.out.kp⟩
          | false =>
            rw [if_neg (by simp)] at er
            subst er
            go_wp2_with fail
            go_ret
            exact ⟨rfl, n', f', MD5.out.at_, MD5.out.ow, MD5.out.kp⟩
        · have er := HE2.out
          rw [if_neg h53] at er
          have e1 : ((m0 : Int) == 53) = false := beq_eq_false_iff_ne.2 (by omega)
          have e2 : ¬ (m0 : Int) = 53 := by omega
          have DO := Lib.hid (do_tree MD5.out.at_ MD5.out.st (by have := MD5.out.nx; have := HX.out; omega) (HM.out.below MD5.out.bl) (rmv s) (Nat.zero_le _) (by show s.length ≤ 10000; omega) (Nat.zero_le _) (Nat.zero_le _) (Nat.zero_le _))
          rw [← er] at DO
          unfold dv dvc rmv zero at DO
          simp only at DO
          clear h53 HE2 er
          go_wp2_with fail
          refine DO.out.mono ?_
          rintro e w6 ⟨rfl, k1⟩
          have TH := Lib.hid (Turned.next MD5.out.ow MD5.out.kp k1)
          clear k1
          go_wp2_with fail
          go_ret
          exact ⟨rfl, TH.out⟩

end Go.Proofs.YtipajekehbpghaaGreatDoor

namespace Go.Proofs.YtipajekehbpghaaGreatDoor
open Go.RowKit Go.Maps Tre Pk

theorem infoNd : (Tryz.prog.info? 33).map (·.size) = some 10 := by kernel_rfl
theorem results_nd {fn : Func} {p u : Tmp} (h : fn.results = #[.cell p 33, .tmp u]) (tmps : Array Value) (w : World) (g : Nat) (cs : Array Value) (hs : cs.size = 10)
    (hp : tmps.getD p undef = .pointer (some ⟨g, 0, none⟩)) (hb : Blk w g 33 cs) : (results fn tmps).run Tryz.prog w = .ok (.tuple #[.agg cs, tmps.getD u undef]) w := by
  rw [results_cell_tmp h, hp]
  simp only [asAddr, Sem.run_pure, Result.andThen_ok]
  rw [run_loadVar_row w g _ _ _ _ _ hb Tryz.underlying33 rfl (by rw [hs]; exact infoNd)]
  rfl
theorem below_setRow2 {B : Nat} {a w : World} {g : Nat} (h : Below B a w) (hg : B ≤ g) (cs : Array Value) : Below B a (w.setRow g cs) := by
  refine ⟨h.os, h.tape, h.output, ?_, fun i hi => ?_⟩
  · have := h.size; simpa using this
  · rw [setRow_other w g i cs (by omega)]; exact h.block i hi
theorem size_al2 (w : World) (o : Obj) : (w.alloc o).heap.size = w.heap.size + 1 := by simp
theorem natP_cast' (l : List Hol.Pc) : natP (l.map Hol.castP) = l := by
  unfold natP
  rw [List.map_map]
  have : ((fun p : Int × Int => (p.1.toNat, p.2.toNat)) ∘ Hol.castP) = id := by
    funext p; simp [Hol.castP]
  rw [this, List.map_id]
theorem sizeI_right' {ps : List (Int × Int)} {z : Int} (h : Hol.rightI ps z = true) : 0 ≤ z ∧ ∃ qs : List Hol.Pc, ps = qs.map Hol.castP ∧ Hol.Asc z.toNat 0 qs ∧ qs.length ≤ 20 ∧ sizeI ps = (Hol.size qs : Int) := by
  unfold Hol.rightI at h
  simp only [Bool.and_eq_true, decide_eq_true_eq] at h
  obtain ⟨⟨h0, h20⟩, hg⟩ := h
  have hz : z = ((z.toNat : Nat) : Int) := by omega
  rw [hz] at hg
  obtain ⟨qs, e, ha⟩ := Hol.right_asc z.toNat ps 0 hg
  refine ⟨h0, qs, e, ha, ?_, ?_⟩
  · rw [e, List.length_map] at h20; exact h20
  · rw [e]; exact castP_size qs

set_option maxRecDepth 100000 in
set_option maxHeartbeats 8000000 in
theorem node_any (e : Ent) (mv : Value) (w : World) (hp : Pcs w mv e.map) (hd : e.data.length ≤ 100000) (hl : e.map.length ≤ 1000000000000) (hk : e.kind ≤ 255)
    (hr : sparse e = true → Hol.rightI e.map e.size = true ∧ (e.data.length : Int) = sizeI e.map ∧ e.size ≤ 4000) :
    Calls Tryz.prog 144 #[ev e mv] w fun en w' => en = .returned (.tuple #[ndv (Pk.node e).1, .nilIface]) ∧ Below w.heap.size w w' := by
  have SP := Lib.hid (fun w' (hb : Below w.heap.size w w') => sparse_any e mv w' (hp.below hb) (by omega) hl)
  have hn : Pk.node e = if sparse e = false then (plainN e, 0) else ({ plainN e with data := Hol.put e.data (natP e.map) e.size.toNat }, 0) := by
    unfold Pk.node
    by_cases h : sparse e = false
    · rw [if_pos h, if_pos h]
    · obtain ⟨a, b, c⟩ := hr (by simpa using h)
      rw [if_neg h, if_neg h, if_neg (by rw [a]; simp [b]), if_neg (by omega)]
  have HRR := Lib.hid hr
  have PT := Lib.hid (fun w' (hb : Below w.heap.size w w') (qs : List Hol.Pc) (h1 : e.map = qs.map Hol.castP) (n : Nat) => put_any (bs e.data) mv qs n w' (by rw [← h1]; exact hp.below hb))
  obtain ⟨R, hR⟩ : ∃ R, R = Pk.node e := ⟨_, rfl⟩
  obtain ⟨sp, hsp⟩ : ∃ sp, sp = sparse e := ⟨_, rfl⟩
  rw [← hsp] at SP HRR hn
  rw [← hR] at hn ⊢
  have HN := Lib.hid hn
  obtain ⟨n, k, m1, m2, m3, z, s, na, l, u, g, mj, mn, d, mp⟩ := e
  have hev : ev ⟨n, k, m1, m2, m3, z, s, na, l, u, g, mj, mn, d, mp⟩ mv = .agg #[.string (bs n), .int .u8 k, .int .i64 m1, .int .i64 m2, .int .i64 m3, .int .i64 z, .int .i64 s, .int .i64 na, .string (bs l), .string (bs u), .string (bs g), .int .i64 mj, .int .i64 mn, .string (bs d), mv] := rfl
  rw [hev] at SP ⊢
  simp only at HN HRR PT hd hl hk
  obtain ⟨W, hW⟩ : ∃ W, W = ((w.alloc (.cells #[.string (bs n), .int .u8 k, .int .i64 m1, .int .i64 m2, .int .i64 m3, .int .i64 z, .int .i64 s, .int .i64 na, .string (bs l), .string (bs u), .string (bs g), .int .i64 mj, .int .i64 mn, .string (bs d), mv] 40)).alloc (.cells #[.int .u8 0, .int .i64 0, .int .i64 0, .int .i64 0, .int .i64 0, .int .i64 0, .string ⟨#[]⟩, .string ⟨#[]⟩, .int .i64 0, .int .i64 0] 33)).alloc (.cells #[.int .u8 k, .int .i64 m1, .int .i64 m2, .int .i64 m3, .int .i64 s, .int .i64 na, .string (bs d), .string (bs l), .int .i64 mj, .int .i64 mn] 33) := ⟨_, rfl⟩
  have HB0 := Lib.hid (show Below w.heap.size w W by rw [hW]; exact (((Below.refl w.heap.size w).alloc (Nat.le_refl _) (.cells #[.string (bs n), .int .u8 k, .int .i64 m1, .int .i64 m2, .int .i64 m3, .int .i64 z, .int .i64 s, .int .i64 na, .string (bs l), .string (bs u), .string (bs g), .int .i64 mj, .int .i64 mn, .string (bs d), mv] 40)).alloc (by simp) (.cells #[.int .u8 0, .int .i64 0, .int .i64 0, .int .i64 0, .int .i64 0, .int .i64 0, .string ⟨#[]⟩, .string ⟨#[]⟩, .int .i64 0, .int .i64 0] 33)).alloc (by simp; omega) (.cells #[.int .u8 k, .int .i64 m1, .int .i64 m2, .int .i64 m3, .int .i64 s, .int .i64 na, .string (bs d), .string (bs l), .int .i64 mj, .int .i64 mn] 33))
  have H1 := Lib.hid (show Blk W w.heap.size 40 #[.string (bs n), .int .u8 k, .int .i64 m1, .int .i64 m2, .int .i64 m3, .int .i64 z, .int .i64 s, .int .i64 na, .string (bs l), .string (bs u), .string (bs g), .int .i64 mj, .int .i64 mn, .string (bs d), mv] by rw [hW]; exact ((Blk.new w 40 #[.string (bs n), .int .u8 k, .int .i64 m1, .int .i64 m2, .int .i64 m3, .int .i64 z, .int .i64 s, .int .i64 na, .string (bs l), .string (bs u), .string (bs g), .int .i64 mj, .int .i64 mn, .string (bs d), mv]).alloc _).alloc _)
  have H2 := Lib.hid (show Blk W (w.heap.size + 1) 33 #[.int .u8 0, .int .i64 0, .int .i64 0, .int .i64 0, .int .i64 0, .int .i64 0, .string ⟨#[]⟩, .string ⟨#[]⟩, .int .i64 0, .int .i64 0] by
    have := (Blk.new (w.alloc (.cells #[.string (bs n), .int .u8 k, .int .i64 m1, .int .i64 m2, .int .i64 m3, .int .i64 z, .int .i64 s, .int .i64 na, .string (bs l), .string (bs u), .string (bs g), .int .i64 mj, .int .i64 mn, .string (bs d), mv] 40)) 33 #[.int .u8 0, .int .i64 0, .int .i64 0, .int .i64 0, .int .i64 0, .int .i64 0, .string ⟨#[]⟩, .string ⟨#[]⟩, .int .i64 0, .int .i64 0]).alloc (.cells #[.int .u8 k, .int .i64 m1, .int .i64 m2, .int .i64 m3, .int .i64 s, .int .i64 na, .string (bs d), .string (bs l), .int .i64 mj, .int .i64 mn] 33)
    rw [size_al2] at this
    rw [hW]; exact this)
  have H3 := Lib.hid (show Blk W (w.heap.size + 1 + 1) 33 #[.int .u8 k, .int .i64 m1, .int .i64 m2, .int .i64 m3, .int .i64 s, .int .i64 na, .string (bs d), .string (bs l), .int .i64 mj, .int .i64 mn] by
    have := Blk.new ((w.alloc (.cells #[.string (bs n), .int .u8 k, .int .i64 m1, .int .i64 m2, .int .i64 m3, .int .i64 z, .int .i64 s, .int .i64 na, .string (bs l), .string (bs u), .string (bs g), .int .i64 mj, .int .i64 mn, .string (bs d), mv] 40)).alloc (.cells #[.int .u8 0, .int .i64 0, .int .i64 0, .int .i64 0, .int .i64 0, .int .i64 0, .string ⟨#[]⟩, .string ⟨#[]⟩, .int .i64 0, .int .i64 0] 33)) 33 #[.int .u8 k, .int .i64 m1, .int .i64 m2, .int .i64 m3, .int .i64 s, .int .i64 na, .string (bs d), .string (bs l), .int .i64 mj, .int .i64 mn]
    rw [size_al2, size_al2] at this
    rw [hW]; exact this)
  have HW := Lib.hid hW
  have SPW := Lib.hid (SP.out _ HB0.out)
  have hl1 := H1.out.lt
  have hl2 := H2.out.lt
  have hl3 := H3.out.lt
  clear hn hR hsp hp hr hl hW hev SP
  go_enter Tryz.func144, Tryz.ntmps144
  go_wp2_with fail
  rw [← HW.out]
  refine SPW.out.mono ?_
  rintro en w3 ⟨rfl, h3⟩
  have B3 := Lib.hid (thenB HB0.out h3)
  have S1 := Lib.hid (H1.out.below h3 hl1)
  have S2 := Lib.hid (H2.out.below h3 hl2)
  have S3 := Lib.hid (H3.out.below h3 hl3)
  clear h3 SPW H1 H2 H3 hl1 hl2 hl3 HW
  cases sp with
  | false =>
    have er : R = (plainN ⟨n, k, m1, m2, m3, z, s, na, l, u, g, mj, mn, d, mp⟩, 0) := by rw [HN.out, if_pos rfl]
    subst er
    have T2 := S2
    have T3 := S3
    go_wp2_with (first | (refine wpList_load_row rfl 33 (.tmp 4) rfl (w.heap.size + 1 + 1) rfl 33 _ (0, 0) _ T3.out Tryz.underlying33 rfl infoNd ?_) | (refine wpList_store_row rfl 33 (.tmp 2) (.tmp 44) rfl (w.heap.size + 1) _ rfl rfl 33 _ T2.out infoNd rfl (by simp only [List.all_toArray, List.all_cons, List.all_nil, Bool.and_true]; rfl) ?_))
    refine bodyPost_ret (results_nd (p := 2) (u := 3) rfl _ _ (w.heap.size + 1) _ rfl rfl (T2.out.row _)) rfl ?_
    exact ⟨rfl, below_setRow2 B3.out (by omega) _⟩
  | true =>
    obtain ⟨r1, r2, r3⟩ := HRR.out rfl
    obtain ⟨z0, qs, c1, c2, c3, c4⟩ := sizeI_right' r1
    obtain ⟨zn, rfl⟩ := Int.eq_ofNat_of_zero_le z0
    rw [Int.toNat_natCast] at c2
    have er : R = ({ plainN ⟨n, k, m1, m2, m3, zn, s, na, l, u, g, mj, mn, d, mp⟩ with data := Hol.put d qs zn }, 0) := by
      rw [HN.out, if_neg (by simp), c1, natP_cast', Int.toNat_natCast]
    have PW := Lib.hid (PT.out _ B3.out qs c1 zn c2 c3 (by omega) (by rw [bs_size]; have := r2.trans c4; omega))
    rw [bs_list] at PW
    have d5 := S1.out.cell 5
    have d13 := S1.out.cell 13
    have d14 := S1.out.cell 14
    simp only [List.getElem?_toArray, List.getElem?_cons_succ, List.getElem?_cons_zero] at d5 d13 d14
    have l1 := S1.out.lt
    have l2 := S2.out.lt
    have l3 := S3.out.lt
    subst er
    clear r1 r2 r3 c1 c2 c3 c4 z0 HN HRR PT
    go_wp2_with fail
    refine PW.out.mono ?_
    rintro en w4 ⟨rfl, h4⟩
    have B4 := Lib.hid (thenB B3.out h4)
    have V2 := Lib.hid (S2.out.below h4 l2)
    have V3 := Lib.hid (S3.out.below h4 l3)
    have e6 := V3.out.cell 6
    have f6 := V3.out.frozen 6
    simp only [List.getElem?_toArray, List.getElem?_cons_succ, List.getElem?_cons_zero] at e6
    have l4 := V3.out.lt
    clear h4 PW d5 d13 d14 l1 l2 l3
    repeat' ((fail_if_success (with_reducible refine halt_at 7 ?_)); first | go_values | go_skip | go_guarded | go_step | go_upon | go_back | (simp only [Int.not_lt, Int.not_le] at *; go_simp) | (go_values <;> (try go_simp)) | (go_ite <;> go_prune <;> (try go_simp)) | (split <;> (first | (rename_i hx; exact (hx _ rfl).elim) | go_prune)))
    obtain ⟨w7, hw7⟩ : ∃ w7, w7 = w4.setCell ⟨w.heap.size + 1 + 1, 6, none⟩ (.string ⟨(Hol.put d qs zn).toArray⟩) := ⟨_, rfl⟩
    have B7 := Lib.hid (show Below w.heap.size w w7 by rw [hw7]; exact below_of_only B4.out (only_setCell (only_refl _ _) (.inl rfl) _) B4.out.size (by show _ ≤ w.heap.size + 1 + 1; omega))
    have T2 : Hid (Blk w7 (w.heap.size + 1) 33 #[.int .u8 0, .int .i64 0, .int .i64 0, .int .i64 0, .int .i64 0, .int .i64 0, .string ⟨#[]⟩, .string ⟨#[]⟩, .int .i64 0, .int .i64 0]) := Lib.hid (by rw [hw7]; exact V2.out.far (by show w.heap.size + 1 ≠ w.heap.size + 1 + 1; omega) _)
    have T3 : Hid (Blk w7 (w.heap.size + 1 + 1) 33 #[.int .u8 k, .int .i64 m1, .int .i64 m2, .int .i64 m3, .int .i64 s, .int .i64 na, .string (bs (Hol.put d qs zn)), .string (bs l), .int .i64 mj, .int .i64 mn]) := Lib.hid (by rw [hw7]; exact V3.out.set_ 6 _)
    rw [← hw7]
    clear hw7 e6 f6 l4 V2 V3
    go_wp2_with (first | (refine wpList_load_row rfl 33 (.tmp 4) rfl (w.heap.size + 1 + 1) rfl 33 _ (0, 0) _ T3.out Tryz.underlying33 rfl infoNd ?_) | (refine wpList_store_row rfl 33 (.tmp 2) (.tmp 44) rfl (w.heap.size + 1) _ rfl rfl 33 _ T2.out infoNd rfl (by simp only [List.all_toArray, List.all_cons, List.all_nil, Bool.and_true]; rfl) ?_))
    refine bodyPost_ret (results_nd (p := 2) (u := 3) rfl _ _ (w.heap.size + 1) _ rfl rfl (T2.out.row _)) rfl ?_
    exact ⟨rfl, below_setRow2 B7.out (by omega) _⟩

end Go.Proofs.YtipajekehbpghaaGreatDoor

namespace Go.Proofs.YtipajekehbpghaaGreatDoor
open Go.RowKit Go.Maps Tre Pk

/-- What stands while a file is placed: the tree, and two blocks of the call's own. -/
structure Pm (w0 w wr : World) (g : Nat) (on of n' f' : Option Nat) (tk : T) (p1 : Nat) (c1 : Array Value) (p7 : Nat) (c7 : Array Value) : Prop where
  at_ : TreeAt wr g n' f' tk
  st : Std tk
  ow : ∀ x ∈ own g n' f', x ∈ own g on of ∨ w.heap.size ≤ x
  o0 : ∀ x ∈ own g n' f', w0.heap.size ≤ x
  kp : Kept (own g on of) w wr
  bl : Below w0.heap.size w0 wr
  b1 : Blk wr p1 40 c1
  b7 : Blk wr p7 33 c7
  a1 : p1 ∉ own g n' f'
  a7 : p7 ∉ own g n' f'
theorem Pm.below {w0 w wr wr' : World} {g : Nat} {on of n' f' : Option Nat} {tk : T} {p1 p7 : Nat} {c1 c7 : Array Value} (h : Pm w0 w wr g on of n' f' tk p1 c1 p7 c7) (hb : Below wr.heap.size wr wr') : Pm w0 w wr' g on of n' f' tk p1 c1 p7 c7 :=
  ⟨h.at_.below hb, h.st, h.ow, h.o0, h.kp.below hb, thenB h.bl hb, h.b1.below hb h.b1.lt, h.b7.below hb h.b7.lt, h.a1, h.a7⟩
theorem Pm.step {w0 w wr wr' : World} {g : Nat} {on of n' f' n2 f2 : Option Nat} {tk u : T} {p1 p7 : Nat} {c1 c7 : Array Value} (h : Pm w0 w wr g on of n' f' tk p1 c1 p7 c7)
    (h1 : TreeAt wr' g n2 f2 u) (h2 : ∀ x ∈ own g n2 f2, x ∈ own g n' f' ∨ wr.heap.size ≤ x) (h3 : Kept (own g n' f') wr wr') (hs : Std u) : Pm w0 w wr' g on of n2 f2 u p1 c1 p7 c7 := by
  have hb := h.bl.trans (h3.down h.o0 h.bl.size)
  refine ⟨h1, hs, fun x hx => (h2 x hx).elim (h.ow x) (fun hh => .inr (Nat.le_trans h.kp.size hh)), fun x hx => (h2 x hx).elim (h.o0 x) (fun hh => Nat.le_trans h.bl.size hh), ?_, hb, Kept.blk h.b1 h3 h.a1, Kept.blk h.b7 h3 h.a7,
    fun hm => (h2 _ hm).elim h.a1 (fun hh => by have := h.b1.lt; omega), fun hm => (h2 _ hm).elim h.a7 (fun hh => by have := h.b7.lt; omega)⟩
  refine ⟨h3.os.trans h.kp.os, h3.tape.trans h.kp.tape, h3.output.trans h.kp.output, Nat.le_trans h.kp.size h3.size, fun x hx hn => ?_⟩
  exact (h3.block x (Nat.lt_of_lt_of_le hx h.kp.size) (fun hm => (h.ow x hm).elim hn (fun hh => by omega))).trans (h.kp.block x hx hn)
theorem turns_fail {t : T} {s : Pth.Bs} {e : Ent} {n : Nd} {c : Int} {r : List Int} (h : (act t (turn c s e n)).2 ≠ 0) : turns t s e n (c :: r) = act t (turn c s e n) := by
  show (if _ then _ else _) = _
  rw [if_pos h]
theorem turns_goes {t : T} {s : Pth.Bs} {e : Ent} {n : Nd} {c : Int} {r : List Int} (h : (act t (turn c s e n)).2 = 0) : turns t s e n (c :: r) = turns (act t (turn c s e n)).1 s e n r := by
  show (if _ then _ else _) = _
  rw [if_neg (by simp [h])]

theorem turn_eq {e : Ent} {m : Int} (h : e.mode = m) (c : Int) (s : Pth.Bs) (n : Nd) : turn c s e n = ⟨c, s, [], m, n⟩ := by unfold turn; rw [h]

set_option maxRecDepth 100000 in
set_option maxHeartbeats 8000000 in
theorem placed_any {w0 w : World} {g : Nat} {on of : Option Nat} {t : T} (hm : ML w0) (h0 : Below w0.heap.size w0 w) (hO : ∀ b ∈ own g on of, w0.heap.size ≤ b) (h : TreeAt w g on of t) (ht : Std t) (hx : t.nx ≤ 90000) (s : Pth.Bs) (hs : s.length ≤ 1000)
    (e : Ent) (mv : Value) (hp : Pcs w mv e.map) (hd : e.data.length ≤ 100000) (hl : e.map.length ≤ 1000000000000) (hk : e.kind ≤ 255) (hr : sparse e = true → Hol.rightI e.map e.size = true ∧ (e.data.length : Int) = sizeI e.map ∧ e.size ≤ 4000)
    (hn0 : (Pk.node e).2 = 0) (hnk : (Pk.node e).1.kind ≤ 255) (hnl : (Pk.node e).1.link.length ≤ 10000) (hnd : (Pk.node e).1.data.length ≤ 10000) :
    Calls Tryz.prog 115 #[.pointer (some ⟨g, 0, none⟩), .string (bs s), ev e mv] w fun en w' => en = .returned (errV (placed t s e).2) ∧ Turned w g on of (placed t s e).1 w' := by
  have B1 := (Below.refl w.heap.size w).alloc (Nat.le_refl _) (.cells (evc e mv) 40)
  have NO := Lib.hid (node_any e mv _ (hp.below B1) hd hl hk hr)
  have hpl : placed t s e = match t.get s with | none => act t ⟨1, s, [], 0, (Pk.node e).1⟩ | some _ => turns t s e (Pk.node e).1 [6, 7, 8] := by unfold placed; rw [if_neg (by simp [hn0])]; cases t.get s <;> rfl
  have KB := Blk.new w 40 (evc e mv)
  have M0 := Lib.hid (fun w1 (h1 : Below (w.alloc (.cells (evc e mv) 40)).heap.size (w.alloc (.cells (evc e mv) 40)) w1) (c7 : Array Value) =>
    (show Pm w0 w (w1.alloc (.cells c7 33)) g on of on of t w.heap.size (evc e mv) w1.heap.size c7 from
      ⟨(h.below (thenB B1 h1)).below ((Below.refl _ _).alloc (Nat.le_refl _) _), ht, fun x hx => .inl hx, hO, (Kept.of_below (thenB B1 h1)).alloc _, (thenB h0 (thenB B1 h1)).alloc (thenB h0 (thenB B1 h1)).size _, ((KB.below h1 KB.lt).alloc _), Blk.new w1 33 c7, fun hm => by have := h.lt _ hm; omega, fun hm => by have := h.lt _ hm; have := (thenB B1 h1).size; omega⟩))
  have HM := Lib.hid hm
  have HX := Lib.hid hx
  have HS := Lib.hid ht
  obtain ⟨R, hR⟩ : ∃ R, R = placed t s e := ⟨_, rfl⟩
  rw [← hR] at hpl ⊢
  have hturn : ∀ c, turn c s e (Pk.node e).1 = ⟨c, s, [], e.mode, (Pk.node e).1⟩ := fun c => rfl
  obtain ⟨Y, hY⟩ : ∃ Y, Y = (Pk.node e).1 := ⟨_, rfl⟩
  rw [← hY] at hpl NO hnk hnl hnd
  have HPL := Lib.hid hpl
  obtain ⟨y0, y1, y2, y3, y4, y5, y6, y7, y8, y9⟩ := Y
  obtain ⟨E, hE⟩ : ∃ E, E = e := ⟨_, rfl⟩
  rw [← hE] at HPL
  have HE := Lib.hid hE
  obtain ⟨n, k, m1, m2, m3, z, sc, na, l, u, gr, mj, mn, d, mp⟩ := e
  have hmode : E.mode = m1 := by rw [HE.out]
  have HMO := Lib.hid hmode
  have hev : ev ⟨n, k, m1, m2, m3, z, sc, na, l, u, gr, mj, mn, d, mp⟩ mv = .agg #[.string (bs n), .int .u8 k, .int .i64 m1, .int .i64 m2, .int .i64 m3, .int .i64 z, .int .i64 sc, .int .i64 na, .string (bs l), .string (bs u), .string (bs gr), .int .i64 mj, .int .i64 mn, .string (bs d), mv] := rfl
  have hevc : evc ⟨n, k, m1, m2, m3, z, sc, na, l, u, gr, mj, mn, d, mp⟩ mv = #[.string (bs n), .int .u8 k, .int .i64 m1, .int .i64 m2, .int .i64 m3, .int .i64 z, .int .i64 sc, .int .i64 na, .string (bs l), .string (bs u), .string (bs gr), .int .i64 mj, .int .i64 mn, .string (bs d), mv] := rfl
  rw [hev] at NO ⊢
  rw [hevc] at NO M0
  unfold ndv ndc at NO
  simp only at NO hnk hnl hnd
  clear hpl hR hY hE hmode hev hevc hturn KB B1 hp hr hn0 h ht hm hO h0 hx hd hl hk
  go_enter Tryz.func115, Tryz.ntmps115
  go_wp2_with fail
  refine NO.out.mono ?_
  rintro en w1 ⟨rfl, h1⟩
  have M1 := Lib.hid (M0.out w1 h1 #[.int .u8 y0, .int .i64 y1, .int .i64 y2, .int .i64 y3, .int .i64 y4, .int .i64 y5, .string (bs y6), .string (bs y7), .int .i64 y8, .int .i64 y9])
  have GT := Lib.hid (get_any M1.out.at_ (bs s) (fun k hk => by have := (HS.out.short hk).2; have := HX.out; omega) (by rw [bs_size]; omega))
  clear h1 NO M0
  rcases hlk : Tre.look t.ents s with _ | kk
  · have hgv : getV t (bs s).data.toList = .tuple #[ndv zero, .iface 89 (.int .i64 7)] := getV_none (by rw [bs_list]; exact hlk)
    rw [hgv] at GT
    unfold ndv ndc zero at GT
    simp only at GT
    have er : R = act t ⟨1, s, [], 0, ⟨y0, y1, y2, y3, y4, y5, y6, y7, y8, y9⟩⟩ := by
      rw [HPL.out]
      have : t.get s = none := by unfold T.get; rw [hlk]; rfl
      rw [this]
    clear hgv hlk HPL
    go_wp2_with fail
    refine GT.out.mono ?_
    rintro en w3 ⟨rfl, h3⟩
    have M3 := Lib.hid (M1.out.below (h3.alloc h3.size (.cells #[.int .u8 0, .int .i64 0, .int .i64 0, .int .i64 0, .int .i64 0, .int .i64 0, .string (bs []), .string (bs []), .int .i64 0, .int .i64 0] 33)))
    have DO := Lib.hid (do_tree M3.out.at_ M3.out.st (by have := HX.out; omega) (HM.out.below M3.out.bl) ⟨1, s, [], 0, ⟨y0, y1, y2, y3, y4, y5, y6, y7, y8, y9⟩⟩ hnk (by show s.length ≤ 10000; omega) (Nat.zero_le _) hnl hnd)
    rw [← er] at DO
    unfold dv dvc at DO
    simp only at DO
    have HER := Lib.hid er
    have cm := M3.out.b1.cell 2; have _d0 := M3.out.b7.cell 0; have _d1 := M3.out.b7.cell 1; have _d2 := M3.out.b7.cell 2; have _d3 := M3.out.b7.cell 3; have _d4 := M3.out.b7.cell 4; have _d5 := M3.out.b7.cell 5; have _d6 := M3.out.b7.cell 6; have _d7 := M3.out.b7.cell 7; have _d8 := M3.out.b7.cell 8; have _d9 := M3.out.b7.cell 9; have _l1 := M3.out.b1.lt; have _l7 := M3.out.b7.lt; simp only [List.getElem?_toArray, List.getElem?_cons_zero, List.getElem?_cons_succ] at cm _d0 _d1 _d2 _d3 _d4 _d5 _d6 _d7 _d8 _d9
    clear h3 GT M1
    subst er
    go_wp2_with fail
    refine DO.out.mono ?_
    rintro en w5 ⟨rfl, k1⟩
    have TH := Lib.hid (Turned.next M3.out.ow M3.out.kp k1)
    clear cm _d0 _d1 _d2 _d3 _d4 _d5 _d6 _d7 _d8 _d9 _l1 _l7
    clear k1 DO
    go_wp2_with fail
    go_ret
    exact ⟨rfl, TH.out⟩
  · have hgv : getV t (bs s).data.toList = .tuple #[ndv (t.file kk), .nilIface] := getV_of (by rw [bs_list]; exact hlk)
    rw [hgv] at GT
    have HT0 := Lib.hid (show R = turns t s E ⟨y0, y1, y2, y3, y4, y5, y6, y7, y8, y9⟩ [6, 7, 8] by rw [HPL.out, get_of hlk])
    have HNX0 := Lib.hid (show t.nx ≤ t.nx + 0 from Nat.le_refl _)
    obtain ⟨nd, hnd⟩ : ∃ nd, nd = t.file kk := ⟨_, rfl⟩
    rw [← hnd] at GT
    obtain ⟨v0, v1, v2, v3, v4, v5, v6, v7, v8, v9⟩ := nd
    clear hnd
    unfold ndv ndc at GT
    simp only at GT
    clear hgv hlk HPL
    go_wp2_with fail
    refine GT.out.mono ?_
    rintro en w3 ⟨rfl, h3⟩
    have M3 := Lib.hid (M1.out.below (h3.alloc h3.size (.cells #[.int .u8 v0, .int .i64 v1, .int .i64 v2, .int .i64 v3, .int .i64 v4, .int .i64 v5, .string (bs v6), .string (bs v7), .int .i64 v8, .int .i64 v9] 33)))
    clear h3 GT M1
    go_wp2_with fail
    have ix0 : ∀ w, (Instr.index 167 (.agg #[.int .i64 6, .int .i64 7, .int .i64 8]) (.int .i64 0)).run Tryz.prog w = .ok (.int .i64 6) w := fun _ => by kernel_rfl
    have ix1 : ∀ w, (Instr.index 167 (.agg #[.int .i64 6, .int .i64 7, .int .i64 8]) (.int .i64 1)).run Tryz.prog w = .ok (.int .i64 7) w := fun _ => by kernel_rfl
    have ix2 : ∀ w, (Instr.index 167 (.agg #[.int .i64 6, .int .i64 7, .int .i64 8]) (.int .i64 2)).run Tryz.prog w = .ok (.int .i64 8) w := fun _ => by kernel_rfl
    refine wp_loop_rounds 4 ?_
    rw [rounds_succ]

    have DO := Lib.hid (do_tree M3.out.at_ M3.out.st (by have := HX.out; have := HNX0.out; omega) (HM.out.below M3.out.bl) ⟨6, s, [], m1, ⟨y0, y1, y2, y3, y4, y5, y6, y7, y8, y9⟩⟩ hnk (by show s.length ≤ 10000; omega) (Nat.zero_le _) hnl hnd)
    obtain ⟨C0, hC0⟩ : ∃ C, C = act t ⟨6, s, [], m1, ⟨y0, y1, y2, y3, y4, y5, y6, y7, y8, y9⟩⟩ := ⟨_, rfl⟩
    rw [← hC0] at DO
    have HC0 := Lib.hid hC0
    unfold dv dvc at DO
    simp only at DO
    clear hC0
    have cm := M3.out.b1.cell 2; have _d0 := M3.out.b7.cell 0; have _d1 := M3.out.b7.cell 1; have _d2 := M3.out.b7.cell 2; have _d3 := M3.out.b7.cell 3; have _d4 := M3.out.b7.cell 4; have _d5 := M3.out.b7.cell 5; have _d6 := M3.out.b7.cell 6; have _d7 := M3.out.b7.cell 7; have _d8 := M3.out.b7.cell 8; have _d9 := M3.out.b7.cell 9; have _l1 := M3.out.b1.lt; have _l7 := M3.out.b7.lt; simp only [List.getElem?_toArray, List.getElem?_cons_zero, List.getElem?_cons_succ] at cm _d0 _d1 _d2 _d3 _d4 _d5 _d6 _d7 _d8 _d9
    go_wp2_with fail
    refine DO.out.mono ?_
    rintro en x0 ⟨rfl, n0, f0, k1, k2, k3⟩
    have M0 := Lib.hid (M3.out.step k1 k2 k3 (by rw [HC0.out]; exact M3.out.st.act _))
    have HNX1 := Lib.hid (show C0.1.nx ≤ t.nx + 1 by have := (act_nx t ⟨6, s, [], m1, ⟨y0, y1, y2, y3, y4, y5, y6, y7, y8, y9⟩⟩).1; rw [← HC0.out] at this; have := HNX0.out; omega)
    clear cm _d0 _d1 _d2 _d3 _d4 _d5 _d6 _d7 _d8 _d9 _l1 _l7
    clear k1 k2 k3 DO
    by_cases hc0 : C0.2 = 0
    rotate_left
    · have e1 : errV C0.2 = .iface 89 (.int .i64 C0.2) := if_neg hc0
      have er : R = C0 := by rw [HT0.out, turns_fail (by rw [turn_eq HMO.out, ← HC0.out]; exact hc0), turn_eq HMO.out, ← HC0.out]
      have HE1 := Lib.hid e1
      rw [e1]
      subst er
      clear e1 hc0
      go_wp2_with fail
      go_ret
      exact ⟨by rw [HE1.out]; rfl, n0, f0, M0.out.at_, M0.out.ow, M0.out.kp⟩
    have HT1 := Lib.hid (show R = turns C0.1 s E ⟨y0, y1, y2, y3, y4, y5, y6, y7, y8, y9⟩ [7, 8] by rw [HT0.out, turns_goes (by rw [turn_eq HMO.out, ← HC0.out]; exact hc0), turn_eq HMO.out, ← HC0.out])
    have e1 : errV C0.2 = .nilIface := by rw [hc0]; rfl
    rw [e1]
    clear e1 hc0
    go_wp2_with fail
    rw [rounds_succ]

    have DO := Lib.hid (do_tree M0.out.at_ M0.out.st (by have := HX.out; have := HNX1.out; omega) (HM.out.below M0.out.bl) ⟨7, s, [], m1, ⟨y0, y1, y2, y3, y4, y5, y6, y7, y8, y9⟩⟩ hnk (by show s.length ≤ 10000; omega) (Nat.zero_le _) hnl hnd)
    obtain ⟨C1, hC1⟩ : ∃ C, C = act C0.1 ⟨7, s, [], m1, ⟨y0, y1, y2, y3, y4, y5, y6, y7, y8, y9⟩⟩ := ⟨_, rfl⟩
    rw [← hC1] at DO
    have HC1 := Lib.hid hC1
    unfold dv dvc at DO
    simp only at DO
    clear hC1
    have cm := M0.out.b1.cell 2; have _d0 := M0.out.b7.cell 0; have _d1 := M0.out.b7.cell 1; have _d2 := M0.out.b7.cell 2; have _d3 := M0.out.b7.cell 3; have _d4 := M0.out.b7.cell 4; have _d5 := M0.out.b7.cell 5; have _d6 := M0.out.b7.cell 6; have _d7 := M0.out.b7.cell 7; have _d8 := M0.out.b7.cell 8; have _d9 := M0.out.b7.cell 9; have _l1 := M0.out.b1.lt; have _l7 := M0.out.b7.lt; simp only [List.getElem?_toArray, List.getElem?_cons_zero, List.getElem?_cons_succ] at cm _d0 _d1 _d2 _d3 _d4 _d5 _d6 _d7 _d8 _d9
    go_wp2_with fail
    refine DO.out.mono ?_
    rintro en x1 ⟨rfl, n1, f1, k1, k2, k3⟩
    have M1 := Lib.hid (M0.out.step k1 k2 k3 (by rw [HC1.out]; exact M0.out.st.act _))
    have HNX2 := Lib.hid (show C1.1.nx ≤ t.nx + 2 by have := (act_nx C0.1 ⟨7, s, [], m1, ⟨y0, y1, y2, y3, y4, y5, y6, y7, y8, y9⟩⟩).1; rw [← HC1.out] at this; have := HNX1.out; omega)
    clear cm _d0 _d1 _d2 _d3 _d4 _d5 _d6 _d7 _d8 _d9 _l1 _l7
    clear k1 k2 k3 DO
    by_cases hc1 : C1.2 = 0
    rotate_left
    · have e1 : errV C1.2 = .iface 89 (.int .i64 C1.2) := if_neg hc1
      have er : R = C1 := by rw [HT1.out, turns_fail (by rw [turn_eq HMO.out, ← HC1.out]; exact hc1), turn_eq HMO.out, ← HC1.out]
      have HE1 := Lib.hid e1
      rw [e1]
      subst er
      clear e1 hc1
      go_wp2_with fail
      go_ret
      exact ⟨by rw [HE1.out]; rfl, n1, f1, M1.out.at_, M1.out.ow, M1.out.kp⟩
    have HT2 := Lib.hid (show R = turns C1.1 s E ⟨y0, y1, y2, y3, y4, y5, y6, y7, y8, y9⟩ [8] by rw [HT1.out, turns_goes (by rw [turn_eq HMO.out, ← HC1.out]; exact hc1), turn_eq HMO.out, ← HC1.out])
    have e1 : errV C1.2 = .nilIface := by rw [hc1]; rfl
    rw [e1]
    clear e1 hc1
    go_wp2_with fail
    rw [rounds_succ]

    have DO := Lib.hid (do_tree M1.out.at_ M1.out.st (by have := HX.out; have := HNX2.out; omega) (HM.out.below M1.out.bl) ⟨8, s, [], m1, ⟨y0, y1, y2, y3, y4, y5, y6, y7, y8, y9⟩⟩ hnk (by show s.length ≤ 10000; omega) (Nat.zero_le _) hnl hnd)
    obtain ⟨C2, hC2⟩ : ∃ C, C = act C1.1 ⟨8, s, [], m1, ⟨y0, y1, y2, y3, y4, y5, y6, y7, y8, y9⟩⟩ := ⟨_, rfl⟩
    rw [← hC2] at DO
    have HC2 := Lib.hid hC2
    unfold dv dvc at DO
    simp only at DO
    clear hC2
    have cm := M1.out.b1.cell 2; have _d0 := M1.out.b7.cell 0; have _d1 := M1.out.b7.cell 1; have _d2 := M1.out.b7.cell 2; have _d3 := M1.out.b7.cell 3; have _d4 := M1.out.b7.cell 4; have _d5 := M1.out.b7.cell 5; have _d6 := M1.out.b7.cell 6; have _d7 := M1.out.b7.cell 7; have _d8 := M1.out.b7.cell 8; have _d9 := M1.out.b7.cell 9; have _l1 := M1.out.b1.lt; have _l7 := M1.out.b7.lt; simp only [List.getElem?_toArray, List.getElem?_cons_zero, List.getElem?_cons_succ] at cm _d0 _d1 _d2 _d3 _d4 _d5 _d6 _d7 _d8 _d9
    go_wp2_with fail
    refine DO.out.mono ?_
    rintro en x2 ⟨rfl, n2, f2, k1, k2, k3⟩
    have M2 := Lib.hid (M1.out.step k1 k2 k3 (by rw [HC2.out]; exact M1.out.st.act _))
    have HNX3 := Lib.hid (show C2.1.nx ≤ t.nx + 3 by have := (act_nx C1.1 ⟨8, s, [], m1, ⟨y0, y1, y2, y3, y4, y5, y6, y7, y8, y9⟩⟩).1; rw [← HC2.out] at this; have := HNX2.out; omega)
    clear cm _d0 _d1 _d2 _d3 _d4 _d5 _d6 _d7 _d8 _d9 _l1 _l7
    clear k1 k2 k3 DO
    by_cases hc2 : C2.2 = 0
    rotate_left
    · have e1 : errV C2.2 = .iface 89 (.int .i64 C2.2) := if_neg hc2
      have er : R = C2 := by rw [HT2.out, turns_fail (by rw [turn_eq HMO.out, ← HC2.out]; exact hc2), turn_eq HMO.out, ← HC2.out]
      have HE1 := Lib.hid e1
      rw [e1]
      subst er
      clear e1 hc2
      go_wp2_with fail
      go_ret
      exact ⟨by rw [HE1.out]; rfl, n2, f2, M2.out.at_, M2.out.ow, M2.out.kp⟩
    have HT3 := Lib.hid (show R = turns C2.1 s E ⟨y0, y1, y2, y3, y4, y5, y6, y7, y8, y9⟩ [] by rw [HT2.out, turns_goes (by rw [turn_eq HMO.out, ← HC2.out]; exact hc2), turn_eq HMO.out, ← HC2.out])
    have e1 : errV C2.2 = .nilIface := by rw [hc2]; rfl
    rw [e1]
    clear e1 hc2
    go_wp2_with fail
    rw [rounds_succ]
    have er : R = (C2.1, 0) := HT3.out
    subst er
    go_wp2_with fail
    go_ret
    exact ⟨rfl, n2, f2, M2.out.at_, M2.out.ow, M2.out.kp⟩

end Go.Proofs.YtipajekehbpghaaGreatDoor
