/-
  slices.DeleteFunc of members, in a row of the call's own.
-/
import Derived.Test.YtipajekehbpghaaGreatDoorZya
import Derived.Test.YtipajekehbpghaaGreatDoorZv
import Derived.Test.YtipajekehbpghaaGreatDoorZu
import Derived.Test.YtipajekehbpghaaGreatDoorZi
import Derived.Laws.EntriesVeiled
set_option linter.unusedVariables false
set_option linter.unusedSimpArgs false

namespace Go.Proofs.YtipajekehbpghaaGreatDoor
open Go.RowKit Tre Pk

set_option maxRecDepth 100000 in
set_option maxHeartbeats 4000000 in
theorem indexE_rows (l : List (Ent × Value)) (b c : Nat) (p : Ent × Value → Bool) (g : Nat) (lb : Array Value) (eg : ∀ args w, (callFunc g args).run Tryz.prog w = .ok (.enter g args) w) (w : World) (hb : b < w.heap.size) (hrow : RowE w b 0 l) (hl : l.length ≤ 1000)
    (hp : ∀ r ∈ l, ∀ w', Below w.heap.size w w' → Calls Tryz.prog g (#[ev r.1 r.2] ++ lb) w' fun e w'' => e = .returned (.bool (p r)) ∧ Below w'.heap.size w' w'') :
    Calls Tryz.prog 124 #[.slice (some ⟨b, 0, none⟩) l.length c, .func (.func g) #[] lb] w fun e w' => e = .returned (.int .i64 (idxQ p l)) ∧ Below w.heap.size w w' := by
  have R := Lib.hid hrow
  have HP := Lib.hid hp
  have hli : (l.length : Int) ≤ 1000 := by omega
  clear hrow hp
  go_enter Tryz.func124, Tryz.ntmps124
  go_wp2_with fail
  go_loopg [5, 8] (l.length) (fun gg _ iv wr => ∃ i : Nat, iv = .int .i64 i ∧ i ≤ l.length ∧ gg = l.length - i ∧ Below w.heap.size w wr ∧ Hid (∀ (j : Nat) (hj : j < l.length), j < i → p l[j] = false))
  case atStart => exact ⟨0, rfl, by omega, by omega, Below.refl _ _, Lib.hid (fun j hj h0 => absurd h0 (by omega))⟩
  case round =>
    obtain ⟨i, rfl, hi, hg, hbw, HN⟩ := hrel
    have HW := Lib.hid hbw
    have HG := Lib.hid hg
    clear hbw hg
    by_cases hil : i < l.length
    · have hii : (i : Int) < l.length := by omega
      have hcell := (R.out.below HW.out hb) i hil
      have hpp := HP.out l[i] (List.getElem_mem hil) wr HW.out
      obtain ⟨r, hrd⟩ : ∃ r, r = l[i] := ⟨_, rfl⟩
      rw [← hrd] at hcell hpp
      simp only [Nat.zero_add] at hcell
      have d0 : wr.cell? ⟨b, i * 15, none⟩ = some (.string (bs r.1.name)) := hcell 0 (by omega)
      have d1 : wr.cell? ⟨b, i * 15 + 1, none⟩ = some (.int .u8 r.1.kind) := hcell 1 (by omega)
      have d2 : wr.cell? ⟨b, i * 15 + 2, none⟩ = some (.int .i64 r.1.mode) := hcell 2 (by omega)
      have d3 : wr.cell? ⟨b, i * 15 + 3, none⟩ = some (.int .i64 r.1.uid) := hcell 3 (by omega)
      have d4 : wr.cell? ⟨b, i * 15 + 4, none⟩ = some (.int .i64 r.1.gid) := hcell 4 (by omega)
      have d5 : wr.cell? ⟨b, i * 15 + 5, none⟩ = some (.int .i64 r.1.size) := hcell 5 (by omega)
      have d6 : wr.cell? ⟨b, i * 15 + 6, none⟩ = some (.int .i64 r.1.sec) := hcell 6 (by omega)
      have d7 : wr.cell? ⟨b, i * 15 + 7, none⟩ = some (.int .i64 r.1.nano) := hcell 7 (by omega)
      have d8 : wr.cell? ⟨b, i * 15 + 8, none⟩ = some (.string (bs r.1.link)) := hcell 8 (by omega)
      have d9 : wr.cell? ⟨b, i * 15 + 9, none⟩ = some (.string (bs r.1.user)) := hcell 9 (by omega)
      have d10 : wr.cell? ⟨b, i * 15 + 10, none⟩ = some (.string (bs r.1.group)) := hcell 10 (by omega)
      have d11 : wr.cell? ⟨b, i * 15 + 11, none⟩ = some (.int .i64 r.1.major) := hcell 11 (by omega)
      have d12 : wr.cell? ⟨b, i * 15 + 12, none⟩ = some (.int .i64 r.1.minor) := hcell 12 (by omega)
      have d13 : wr.cell? ⟨b, i * 15 + 13, none⟩ = some (.string (bs r.1.data)) := hcell 13 (by omega)
      have d14 : wr.cell? ⟨b, i * 15 + 14, none⟩ = some (r.2) := hcell 14 (by omega)
      obtain ⟨q, hq⟩ : ∃ q, q = p r := ⟨_, rfl⟩
      rw [← hq] at hpp
      unfold ev evc at hpp
      have PP := Lib.hid hpp
      have HQ := Lib.hid (hq.trans (by rw [hrd]) : q = p l[i])
      clear hcell hrd hpp hq
      cases q
      · go_wp2_with fail
        refine PP.out.mono ?_
        rintro e w1 ⟨rfl, hb1⟩
        have B1 := Lib.hid (thenB HW.out hb1)
        clear hb1
        go_wp2_with fail
        go_roundg (l.length - (i + 1))
        case measure => have := HG.out; omega
        case rel =>
          refine ⟨i + 1, by go_num, by omega, by omega, B1.out, Lib.hid (fun j hj h0 => ?_)⟩
          by_cases e : j = i
          · subst e; exact HQ.out.symm
          · exact HN.out j hj (by omega)
      · go_wp2_with fail
        refine PP.out.mono ?_
        rintro e w1 ⟨rfl, hb1⟩
        have B1 := Lib.hid (thenB HW.out hb1)
        clear hb1
        go_wp2_with fail
        go_ret
        exact ⟨by rw [idxQ_hit hil HQ.out.symm HN.out]; rfl, B1.out⟩
    · have hii : (l.length : Int) ≤ i := by omega
      go_wp2_with fail
      go_ret
      exact ⟨by rw [idxQ_miss (fun j hj => HN.out j hj (by omega))]; rfl, HW.out⟩

/-- Cells set one behind the other. -/
def putAt (o : Nat) : Nat → List Value → Array Value → Array Value
  | _, [], cr => cr
  | k, v :: L, cr => putAt o (k + 1) L (cr.setIfInBounds (o + k) v)
theorem putAt_size (o : Nat) : ∀ (L : List Value) (k : Nat) (cr : Array Value), (putAt o k L cr).size = cr.size
  | [], _, _ => rfl
  | v :: L, k, cr => by unfold putAt; rw [putAt_size o L]; simp
theorem putAt_get (o : Nat) : ∀ (L : List Value) (k : Nat) (cr : Array Value) (m : Nat), o + k + L.length ≤ cr.size → (putAt o k L cr)[m]? = if o + k ≤ m ∧ m < o + k + L.length then L[m - (o + k)]? else cr[m]?
  | [], k, cr, m, _ => by unfold putAt; rw [if_neg (by rw [List.length_nil]; omega)]
  | v :: L, k, cr, m, h => by
    have hs : (cr.setIfInBounds (o + k) v).size = cr.size := by simp
    rw [List.length_cons] at h
    unfold putAt
    rw [putAt_get o L (k + 1) _ m (by omega), List.length_cons, Array.getElem?_setIfInBounds]
    by_cases e : m = o + k
    · subst e
      rw [if_neg (by omega), if_pos rfl, if_pos (by omega), if_pos (by omega), Nat.sub_self]; rfl
    · by_cases h2 : o + (k + 1) ≤ m ∧ m < o + (k + 1) + L.length
      · rw [if_pos h2, if_pos (by omega), show m - (o + k) = (m - (o + (k + 1))) + 1 by omega, List.getElem?_cons_succ]
      · rw [if_neg h2, if_neg (Ne.symm e), if_neg (by omega)]

/-- What the row holds on the way. -/
structure DInvE (p : Ent × Value → Bool) (l : List (Ent × Value)) (cr : Array Value) (n j : Nat) : Prop where
  size : cr.size = n
  fits : l.length * 15 ≤ n
  low : ∀ (m : Nat) (hm : m < ((l.take j).filter fun r => !p r).length) (k : Nat), k < 15 → cr[m * 15 + k]? = (evc ((l.take j).filter fun r => !p r)[m].1 ((l.take j).filter fun r => !p r)[m].2)[k]?
  high : ∀ (m : Nat) (hm : m < l.length), j ≤ m → ∀ k, k < 15 → cr[m * 15 + k]? = (evc l[m].1 l[m].2)[k]?
theorem DInvE.skip {p : Ent × Value → Bool} {l : List (Ent × Value)} {cr : Array Value} {n j : Nat} (h : DInvE p l cr n j) (hj : j < l.length) (hp : p l[j] = true) : DInvE p l cr n (j + 1) := by
  have e : (l.take (j + 1)).filter (fun r => !p r) = (l.take j).filter (fun r => !p r) := by rw [keptQ_snoc p l j hj, hp]; simp
  refine ⟨h.size, h.fits, ?_, fun m hm h2 => h.high m hm (by omega)⟩
  rw [e]
  exact h.low
theorem DInvE.keep {p : Ent × Value → Bool} {l : List (Ent × Value)} {cr : Array Value} {n j : Nat} (h : DInvE p l cr n j) (hj : j < l.length) (hp : p l[j] = false) {i : Nat} (hi : i = ((l.take j).filter fun r => !p r).length) :
    DInvE p l (putAt (i * 15) 0 (evc l[j].1 l[j].2).toList cr) n (j + 1) := by
  have hle := keptQ_le p l j
  have hs := h.size
  have hf := h.fits
  have hlen : (evc l[j].1 l[j].2).toList.length = 15 := rfl
  have e : (l.take (j + 1)).filter (fun r => !p r) = (l.take j).filter (fun r => !p r) ++ [l[j]] := by rw [keptQ_snoc p l j hj, hp]; simp
  refine ⟨by rw [putAt_size]; exact h.size, h.fits, ?_, fun m hm h2 k hk => ?_⟩
  · rw [e]
    intro m hm k hk
    rw [List.length_append, List.length_singleton] at hm
    rw [putAt_get _ _ _ _ _ (by rw [hlen]; omega), hlen]
    by_cases hmi : m < i
    · have hm2 : m < ((l.take j).filter fun r => !p r).length := by omega
      have a := h.low m hm2 k hk
      rw [List.getElem_append_left hm2, ← a, if_neg (by omega)]
    · obtain rfl : m = i := by omega
      have e2 : ((l.take j).filter (fun r => !p r) ++ [l[j]])[m]'(by rw [List.length_append, List.length_singleton]; omega) = l[j] := by
        rw [List.getElem_append_right (by omega)]; simp
      rw [e2, if_pos (by omega), show m * 15 + k - (m * 15 + 0) = k by omega, Array.getElem?_toList]
  · have a := h.high m hm (by omega) k hk
    rw [putAt_get _ _ _ _ _ (by rw [hlen]; omega), hlen, ← a, if_neg (by omega)]
theorem DInvE.done {p : Ent × Value → Bool} {l : List (Ent × Value)} {cr cr' : Array Value} {n j : Nat} (h : DInvE p l cr n j) (hj : l.length ≤ j) (hcr : ∀ i, i < (l.filter fun r => !p r).length * 15 → cr'[i]? = cr[i]?) :
    ∀ (m : Nat) (hm : m < (l.filter fun r => !p r).length) (k : Nat), k < 15 → cr'[m * 15 + k]? = (evc (l.filter fun r => !p r)[m].1 (l.filter fun r => !p r)[m].2)[k]? := by
  have e : l.take j = l := List.take_of_length_le hj
  have hl := h.low
  rw [e] at hl
  intro m hm k hk
  rw [hcr _ (by omega)]
  exact hl m hm k hk
theorem DInvE.start {p : Ent × Value → Bool} {l : List (Ent × Value)} {cr : Array Value} {i : Nat} (hc : ∀ (m : Nat) (hm : m < l.length) (k : Nat), k < 15 → cr[m * 15 + k]? = (evc l[m].1 l[m].2)[k]?) (hf : l.length * 15 ≤ cr.size)
    (hi : i < l.length) (hp : p l[i] = true) (ha : ∀ x ∈ l.take i, p x = false) : DInvE p l cr cr.size (i + 1) ∧ ((l.take (i + 1)).filter fun r => !p r).length = i := by
  have e0 : (l.take i).filter (fun r => !p r) = l.take i := List.filter_eq_self.2 fun x hx => by rw [ha x hx]; rfl
  have e : (l.take (i + 1)).filter (fun r => !p r) = l.take i := by rw [keptQ_snoc p l i hi, hp, e0]; simp
  refine ⟨⟨rfl, hf, ?_, fun m hm _ => hc m hm⟩, ?_⟩
  · rw [e]
    intro m hm
    rw [List.length_take] at hm
    rw [List.getElem_take]
    exact hc m (by omega)
  · rw [e, List.length_take]; omega

set_option maxRecDepth 100000 in
set_option maxHeartbeats 8000000 in
theorem deleteE_rows (l : List (Ent × Value)) (b c : Nat) (T : TypeId) (cur : Array Value) (p : Ent × Value → Bool) (g : Nat) (lb : Array Value) (eg : ∀ args w, (callFunc g args).run Tryz.prog w = .ok (.enter g args) w) (w : World)
    (hblk : Blk w b T cur) (hrow : RowE w b 0 l) (hf : l.length * 15 ≤ cur.size) (hl : l.length ≤ 1000) (hlc : l.length ≤ c) (hc : c ≤ 9223372036854775807) (hmv : ∀ r ∈ l, ∃ A n k, r.2 = .slice A n k)
    (hp : ∀ r ∈ l, ∀ w', w.grownBy w' (some b) → Calls Tryz.prog g (#[ev r.1 r.2] ++ lb) w' fun e w'' => e = .returned (.bool (p r)) ∧ Below w'.heap.size w' w'') :
    Calls Tryz.prog 79 #[.slice (some ⟨b, 0, none⟩) l.length c, .func (.func g) #[] lb] w fun e w' => e = .returned (.slice (some ⟨b, 0, none⟩) (l.filter fun r => !p r).length c) ∧ (∃ cur', Blk w' b T cur' ∧ cur'.size = cur.size) ∧ RowE w' b 0 (l.filter fun r => !p r) ∧ w.grownBy w' (some b) := by
  have hblt := hblk.lt
  have hix := indexE_rows l b c p g lb eg w hblt hrow hl (fun r hr w' h => hp r hr w' (only_of_below h _))
  have HIX := Lib.hid hix
  have hli : (l.length : Int) ≤ 1000 := by omega
  have hcI : (c : Int) ≤ 9223372036854775807 := by omega
  have hlcI : (l.length : Int) ≤ c := by omega
  rcases idxQ_ways p l with ⟨e1, hall⟩ | ⟨i0, hi0, e1, ht, hall⟩
  · have HB := Lib.hid hblk
    have HR := Lib.hid hrow
    have hfil : (l.filter fun r => !p r) = l := List.filter_eq_self.2 fun x hx => by rw [hall x hx]; rfl
    rw [hfil]
    rw [e1] at HIX
    clear hix hblk hrow hp hall e1 hfil
    go_enter Tryz.func79, Tryz.ntmps79
    go_wp2_with fail
    refine HIX.out.mono ?_
    rintro e w1 ⟨rfl, h1⟩
    have B1 := Lib.hid h1
    clear h1
    go_wp2_with fail
    go_ret
    exact ⟨rfl, ⟨cur, HB.out.below B1.out hblt, rfl⟩, HR.out.below B1.out hblt, only_of_below B1.out _⟩
  · rw [e1] at HIX
    have hcells : ∀ (m : Nat) (hm : m < l.length) (k : Nat), k < 15 → cur[m * 15 + k]? = (evc l[m].1 l[m].2)[k]? := fun m hm k hk => by
      have c0 := hrow m hm k hk
      rw [Nat.zero_add, hblk.cell] at c0
      exact c0
    obtain ⟨hD, hDl⟩ := DInvE.start hcells hf hi0 ht hall
    have HD := Lib.hid hD
    have HDL := Lib.hid hDl
    have HB := Lib.hid hblk
    have HP := Lib.hid hp
    have HMV := Lib.hid hmv
    have hi0I : (i0 : Int) < l.length := by omega
    have hne1 : ((i0 : Int) == -1) = false := beq_eq_false_iff_ne.2 (by omega)
    have HF := Lib.hid hf
    have hz : ∀ w, (zeroValue 40).run Tryz.prog w = .ok (.agg #[.string ⟨#[]⟩, .int .u8 0, .int .i64 0, .int .i64 0, .int .i64 0, .int .i64 0, .int .i64 0, .int .i64 0, .string ⟨#[]⟩, .string ⟨#[]⟩, .string ⟨#[]⟩, .int .i64 0, .int .i64 0, .string ⟨#[]⟩, .slice none 0 0]) w := fun w => by kernel_rfl
    have HZ := Lib.hid hz
    clear hix hblk hrow hp hall e1 hcells hD hDl ht hf hz
    go_enter Tryz.func79, Tryz.ntmps79
    go_wp2_with fail
    refine HIX.out.mono ?_
    rintro e w1 ⟨rfl, h1⟩
    have G1 := Lib.hid (only_of_below h1 (some b))
    have K1 := Lib.hid (HB.out.below h1 hblt)
    clear h1
    go_wp2_with fail
    go_loopg [5, 6, 7] (l.length - (i0 + 1)) (fun gg iv jv _ wr => ∃ (i j : Nat) (cr : Array Value), iv = .int .i64 i ∧ jv = .int .i64 j ∧ j ≤ l.length ∧ i < j ∧ gg = l.length - j ∧ w.grownBy wr (some b) ∧ Blk wr b T cr ∧ Hid (DInvE p l cr cur.size j) ∧ Hid (i = ((l.take j).filter fun r => !p r).length))
    case atStart => exact ⟨i0, i0 + 1, cur, rfl, by go_num, by omega, by omega, rfl, G1.out, K1.out, HD, Lib.hid HDL.out.symm⟩
    case round =>
      obtain ⟨i, j, cr, rfl, rfl, hj, hij, hgg, hgw, hbl, HI, HL⟩ := hrel
      have HG := Lib.hid hgg
      have HW := Lib.hid hgw
      have HK := Lib.hid hbl
      have hwz := hgw.size
      clear hgg hgw hbl
      have hiI : (i : Int) < j := by omega
      have hjI : (j : Int) ≤ 1000 := by omega
      by_cases hlt : j < l.length
      · have hltI : (j : Int) < l.length := by omega
        have hcell := HI.out.high j hlt (Nat.le_refl _)
        have hsz := HI.out.size
        have hft := HI.out.fits
        have hpp := HP.out l[j] (List.getElem_mem hlt)
        have HSK := Lib.hid (fun (h : p l[j] = true) => HI.out.skip hlt h)
        have HKE := Lib.hid (fun (h : p l[j] = false) => HI.out.keep hlt h HL.out)
        have HKS := Lib.hid (keptQ_snoc p l j hlt)
        obtain ⟨re, XA, xn, xc, hrd⟩ : ∃ e A n k, l[j] = (e, .slice A n k) := by
          obtain ⟨A, n, k, h⟩ := HMV.out l[j] (List.getElem_mem hlt)
          exact ⟨l[j].1, A, n, k, by rw [← h]⟩
        obtain ⟨q, hq⟩ : ∃ q, q = p l[j] := ⟨_, rfl⟩
        have HQ0 := hq
        rw [← hq] at hpp
        rw [hrd] at hcell hpp HSK HKE HKS HQ0
        dsimp only at hpp
        have d0 : wr.cell? ⟨b, j * 15, none⟩ = some (.string (bs re.name)) := (HK.out.cell _).trans (hcell 0 (by omega))
        have d1 : wr.cell? ⟨b, j * 15 + 1, none⟩ = some (.int .u8 re.kind) := (HK.out.cell _).trans (hcell 1 (by omega))
        have d2 : wr.cell? ⟨b, j * 15 + 2, none⟩ = some (.int .i64 re.mode) := (HK.out.cell _).trans (hcell 2 (by omega))
        have d3 : wr.cell? ⟨b, j * 15 + 3, none⟩ = some (.int .i64 re.uid) := (HK.out.cell _).trans (hcell 3 (by omega))
        have d4 : wr.cell? ⟨b, j * 15 + 4, none⟩ = some (.int .i64 re.gid) := (HK.out.cell _).trans (hcell 4 (by omega))
        have d5 : wr.cell? ⟨b, j * 15 + 5, none⟩ = some (.int .i64 re.size) := (HK.out.cell _).trans (hcell 5 (by omega))
        have d6 : wr.cell? ⟨b, j * 15 + 6, none⟩ = some (.int .i64 re.sec) := (HK.out.cell _).trans (hcell 6 (by omega))
        have d7 : wr.cell? ⟨b, j * 15 + 7, none⟩ = some (.int .i64 re.nano) := (HK.out.cell _).trans (hcell 7 (by omega))
        have d8 : wr.cell? ⟨b, j * 15 + 8, none⟩ = some (.string (bs re.link)) := (HK.out.cell _).trans (hcell 8 (by omega))
        have d9 : wr.cell? ⟨b, j * 15 + 9, none⟩ = some (.string (bs re.user)) := (HK.out.cell _).trans (hcell 9 (by omega))
        have d10 : wr.cell? ⟨b, j * 15 + 10, none⟩ = some (.string (bs re.group)) := (HK.out.cell _).trans (hcell 10 (by omega))
        have d11 : wr.cell? ⟨b, j * 15 + 11, none⟩ = some (.int .i64 re.major) := (HK.out.cell _).trans (hcell 11 (by omega))
        have d12 : wr.cell? ⟨b, j * 15 + 12, none⟩ = some (.int .i64 re.minor) := (HK.out.cell _).trans (hcell 12 (by omega))
        have d13 : wr.cell? ⟨b, j * 15 + 13, none⟩ = some (.string (bs re.data)) := (HK.out.cell _).trans (hcell 13 (by omega))
        have d14 : wr.cell? ⟨b, j * 15 + 14, none⟩ = some (.slice XA xn xc) := (HK.out.cell _).trans (hcell 14 (by omega))
        obtain ⟨wq, hwq⟩ : ∃ x, x = wr.alloc (.cells #[.string (bs re.name), .int .u8 re.kind, .int .i64 re.mode, .int .i64 re.uid, .int .i64 re.gid, .int .i64 re.size, .int .i64 re.sec, .int .i64 re.nano, .string (bs re.link), .string (bs re.user), .string (bs re.group), .int .i64 re.major, .int .i64 re.minor, .string (bs re.data), (.slice XA xn xc)] 40) := ⟨_, rfl⟩
        have hqb : Below wr.heap.size wr wq := by rw [hwq]; exact (Below.refl _ _).alloc (Nat.le_refl _) _
        have hwqz : wq.heap.size = wr.heap.size + 1 := by rw [hwq]; simp
        have HQB := Lib.hid hqb
        have hpp2 := hpp wq (only_trans HW.out (only_of_below hqb _))
        have ZB := Lib.hid (show Blk wq wr.heap.size 40 #[.string (bs re.name), .int .u8 re.kind, .int .i64 re.mode, .int .i64 re.uid, .int .i64 re.gid, .int .i64 re.size, .int .i64 re.sec, .int .i64 re.nano, .string (bs re.link), .string (bs re.user), .string (bs re.group), .int .i64 re.major, .int .i64 re.minor, .string (bs re.data), (.slice XA xn xc)] by rw [hwq]; exact Blk.new wr 40 _)
        unfold ev evc at hpp2
        have PP := Lib.hid hpp2
        have HQ := Lib.hid HQ0
        have HWQ := Lib.hid hwq
        have HSZ := Lib.hid (show i * 15 + 15 ≤ cr.size by omega)
        have hbw := HK.out.lt
        clear hcell hrd hpp hpp2 hq HQ0 hsz hft hwq hqb
        cases q
        · repeat' ((fail_if_success (with_reducible refine halt_at 8 ?_)); first | go_values | go_skip | go_guarded | go_step | go_upon | go_back | (simp only [Int.not_lt, Int.not_le] at *; go_simp) | (go_values <;> (try go_simp)) | (go_ite <;> go_prune <;> (try go_simp)) | (split <;> (first | (rename_i hx; exact (hx _ rfl).elim) | go_prune)))
          rw [← HWQ.out]
          clear HWQ
          obtain ⟨zb, hzb⟩ : ∃ zb, zb = wr.heap.size := ⟨_, rfl⟩
          rw [← hzb] at ZB hwqz ⊢
          clear hzb
          have lz := ZB.out.lt
          have t0 : wq.cell? ⟨zb, 0, none⟩ = some (.string (bs re.name)) := ZB.out.cell 0
          have t1 : wq.cell? ⟨zb, 1, none⟩ = some (.int .u8 re.kind) := ZB.out.cell 1
          have t2 : wq.cell? ⟨zb, 2, none⟩ = some (.int .i64 re.mode) := ZB.out.cell 2
          have t3 : wq.cell? ⟨zb, 3, none⟩ = some (.int .i64 re.uid) := ZB.out.cell 3
          have t4 : wq.cell? ⟨zb, 4, none⟩ = some (.int .i64 re.gid) := ZB.out.cell 4
          have t5 : wq.cell? ⟨zb, 5, none⟩ = some (.int .i64 re.size) := ZB.out.cell 5
          have t6 : wq.cell? ⟨zb, 6, none⟩ = some (.int .i64 re.sec) := ZB.out.cell 6
          have t7 : wq.cell? ⟨zb, 7, none⟩ = some (.int .i64 re.nano) := ZB.out.cell 7
          have t8 : wq.cell? ⟨zb, 8, none⟩ = some (.string (bs re.link)) := ZB.out.cell 8
          have t9 : wq.cell? ⟨zb, 9, none⟩ = some (.string (bs re.user)) := ZB.out.cell 9
          have t10 : wq.cell? ⟨zb, 10, none⟩ = some (.string (bs re.group)) := ZB.out.cell 10
          have t11 : wq.cell? ⟨zb, 11, none⟩ = some (.int .i64 re.major) := ZB.out.cell 11
          have t12 : wq.cell? ⟨zb, 12, none⟩ = some (.int .i64 re.minor) := ZB.out.cell 12
          have t13 : wq.cell? ⟨zb, 13, none⟩ = some (.string (bs re.data)) := ZB.out.cell 13
          have t14 : wq.cell? ⟨zb, 14, none⟩ = some (.slice XA xn xc) := ZB.out.cell 14
          go_wp2_with fail
          refine PP.out.mono ?_
          rintro e w2 ⟨rfl, hb2⟩
          have z2 := Lib.hid (ZB.out.below hb2 ZB.out.lt)
          have KK := Lib.hid (HK.out.below (thenB HQB.out hb2) hbw)
          have G2 := Lib.hid (only_trans HW.out (only_of_below (thenB HQB.out hb2) (some b)))
          clear hb2 PP
          have y0 : w2.cell? ⟨zb, 0, none⟩ = some (.string (bs re.name)) := z2.out.cell 0
          have y1 : w2.cell? ⟨zb, 1, none⟩ = some (.int .u8 re.kind) := z2.out.cell 1
          have y2 : w2.cell? ⟨zb, 2, none⟩ = some (.int .i64 re.mode) := z2.out.cell 2
          have y3 : w2.cell? ⟨zb, 3, none⟩ = some (.int .i64 re.uid) := z2.out.cell 3
          have y4 : w2.cell? ⟨zb, 4, none⟩ = some (.int .i64 re.gid) := z2.out.cell 4
          have y5 : w2.cell? ⟨zb, 5, none⟩ = some (.int .i64 re.size) := z2.out.cell 5
          have y6 : w2.cell? ⟨zb, 6, none⟩ = some (.int .i64 re.sec) := z2.out.cell 6
          have y7 : w2.cell? ⟨zb, 7, none⟩ = some (.int .i64 re.nano) := z2.out.cell 7
          have y8 : w2.cell? ⟨zb, 8, none⟩ = some (.string (bs re.link)) := z2.out.cell 8
          have y9 : w2.cell? ⟨zb, 9, none⟩ = some (.string (bs re.user)) := z2.out.cell 9
          have y10 : w2.cell? ⟨zb, 10, none⟩ = some (.string (bs re.group)) := z2.out.cell 10
          have y11 : w2.cell? ⟨zb, 11, none⟩ = some (.int .i64 re.major) := z2.out.cell 11
          have y12 : w2.cell? ⟨zb, 12, none⟩ = some (.int .i64 re.minor) := z2.out.cell 12
          have y13 : w2.cell? ⟨zb, 13, none⟩ = some (.string (bs re.data)) := z2.out.cell 13
          have y14 : w2.cell? ⟨zb, 14, none⟩ = some (.slice XA xn xc) := z2.out.cell 14
          obtain ⟨v0, s0⟩ : ∃ v, w2.cell? ⟨b, i * 15, none⟩ = some v := ⟨_, (KK.out.cell _).trans (Array.getElem?_eq_getElem (by have := HSZ.out; omega))⟩
          obtain ⟨v1, s1⟩ : ∃ v, w2.cell? ⟨b, i * 15 + 1, none⟩ = some v := ⟨_, (KK.out.cell _).trans (Array.getElem?_eq_getElem (by have := HSZ.out; omega))⟩
          obtain ⟨v2, s2⟩ : ∃ v, w2.cell? ⟨b, i * 15 + 2, none⟩ = some v := ⟨_, (KK.out.cell _).trans (Array.getElem?_eq_getElem (by have := HSZ.out; omega))⟩
          obtain ⟨v3, s3⟩ : ∃ v, w2.cell? ⟨b, i * 15 + 3, none⟩ = some v := ⟨_, (KK.out.cell _).trans (Array.getElem?_eq_getElem (by have := HSZ.out; omega))⟩
          obtain ⟨v4, s4⟩ : ∃ v, w2.cell? ⟨b, i * 15 + 4, none⟩ = some v := ⟨_, (KK.out.cell _).trans (Array.getElem?_eq_getElem (by have := HSZ.out; omega))⟩
          obtain ⟨v5, s5⟩ : ∃ v, w2.cell? ⟨b, i * 15 + 5, none⟩ = some v := ⟨_, (KK.out.cell _).trans (Array.getElem?_eq_getElem (by have := HSZ.out; omega))⟩
          obtain ⟨v6, s6⟩ : ∃ v, w2.cell? ⟨b, i * 15 + 6, none⟩ = some v := ⟨_, (KK.out.cell _).trans (Array.getElem?_eq_getElem (by have := HSZ.out; omega))⟩
          obtain ⟨v7, s7⟩ : ∃ v, w2.cell? ⟨b, i * 15 + 7, none⟩ = some v := ⟨_, (KK.out.cell _).trans (Array.getElem?_eq_getElem (by have := HSZ.out; omega))⟩
          obtain ⟨v8, s8⟩ : ∃ v, w2.cell? ⟨b, i * 15 + 8, none⟩ = some v := ⟨_, (KK.out.cell _).trans (Array.getElem?_eq_getElem (by have := HSZ.out; omega))⟩
          obtain ⟨v9, s9⟩ : ∃ v, w2.cell? ⟨b, i * 15 + 9, none⟩ = some v := ⟨_, (KK.out.cell _).trans (Array.getElem?_eq_getElem (by have := HSZ.out; omega))⟩
          obtain ⟨v10, s10⟩ : ∃ v, w2.cell? ⟨b, i * 15 + 10, none⟩ = some v := ⟨_, (KK.out.cell _).trans (Array.getElem?_eq_getElem (by have := HSZ.out; omega))⟩
          obtain ⟨v11, s11⟩ : ∃ v, w2.cell? ⟨b, i * 15 + 11, none⟩ = some v := ⟨_, (KK.out.cell _).trans (Array.getElem?_eq_getElem (by have := HSZ.out; omega))⟩
          obtain ⟨v12, s12⟩ : ∃ v, w2.cell? ⟨b, i * 15 + 12, none⟩ = some v := ⟨_, (KK.out.cell _).trans (Array.getElem?_eq_getElem (by have := HSZ.out; omega))⟩
          obtain ⟨v13, s13⟩ : ∃ v, w2.cell? ⟨b, i * 15 + 13, none⟩ = some v := ⟨_, (KK.out.cell _).trans (Array.getElem?_eq_getElem (by have := HSZ.out; omega))⟩
          obtain ⟨v14, s14⟩ : ∃ v, w2.cell? ⟨b, i * 15 + 14, none⟩ = some v := ⟨_, (KK.out.cell _).trans (Array.getElem?_eq_getElem (by have := HSZ.out; omega))⟩
          have f0 := KK.out.frozen (i * 15)
          have f1 := KK.out.frozen (i * 15 + 1)
          have f2 := KK.out.frozen (i * 15 + 2)
          have f3 := KK.out.frozen (i * 15 + 3)
          have f4 := KK.out.frozen (i * 15 + 4)
          have f5 := KK.out.frozen (i * 15 + 5)
          have f6 := KK.out.frozen (i * 15 + 6)
          have f7 := KK.out.frozen (i * 15 + 7)
          have f8 := KK.out.frozen (i * 15 + 8)
          have f9 := KK.out.frozen (i * 15 + 9)
          have f10 := KK.out.frozen (i * 15 + 10)
          have f11 := KK.out.frozen (i * 15 + 11)
          have f12 := KK.out.frozen (i * 15 + 12)
          have f13 := KK.out.frozen (i * 15 + 13)
          have f14 := KK.out.frozen (i * 15 + 14)
          go_wp2_with fail
          go_roundg (l.length - (j + 1))
          case measure => have := HG.out; omega
          case rel =>
            refine ⟨i + 1, j + 1, _, by go_num, by go_num, by omega, by omega, rfl, (only_setCell (only_setCell (only_setCell (only_setCell (only_setCell (only_setCell (only_setCell (only_setCell (only_setCell (only_setCell (only_setCell (only_setCell (only_setCell (only_setCell (only_setCell G2.out (.inl rfl) _) (.inl rfl) _) (.inl rfl) _) (.inl rfl) _) (.inl rfl) _) (.inl rfl) _) (.inl rfl) _) (.inl rfl) _) (.inl rfl) _) (.inl rfl) _) (.inl rfl) _) (.inl rfl) _) (.inl rfl) _) (.inl rfl) _) (.inl rfl) _), (((((((((((((((KK.out.set_ (i * 15) _).set_ (i * 15 + 1) _).set_ (i * 15 + 2) _).set_ (i * 15 + 3) _).set_ (i * 15 + 4) _).set_ (i * 15 + 5) _).set_ (i * 15 + 6) _).set_ (i * 15 + 7) _).set_ (i * 15 + 8) _).set_ (i * 15 + 9) _).set_ (i * 15 + 10) _).set_ (i * 15 + 11) _).set_ (i * 15 + 12) _).set_ (i * 15 + 13) _).set_ (i * 15 + 14) _), Lib.hid (HKE.out HQ.out.symm), Lib.hid ?_⟩
            rw [HKS.out, ← HQ.out, HL.out]
            simp
        · repeat' ((fail_if_success (with_reducible refine halt_at 8 ?_)); first | go_values | go_skip | go_guarded | go_step | go_upon | go_back | (simp only [Int.not_lt, Int.not_le] at *; go_simp) | (go_values <;> (try go_simp)) | (go_ite <;> go_prune <;> (try go_simp)) | (split <;> (first | (rename_i hx; exact (hx _ rfl).elim) | go_prune)))
          rw [← HWQ.out]
          clear HWQ
          obtain ⟨zb, hzb⟩ : ∃ zb, zb = wr.heap.size := ⟨_, rfl⟩
          rw [← hzb] at ZB hwqz ⊢
          clear hzb
          have lz := ZB.out.lt
          have t0 : wq.cell? ⟨zb, 0, none⟩ = some (.string (bs re.name)) := ZB.out.cell 0
          have t1 : wq.cell? ⟨zb, 1, none⟩ = some (.int .u8 re.kind) := ZB.out.cell 1
          have t2 : wq.cell? ⟨zb, 2, none⟩ = some (.int .i64 re.mode) := ZB.out.cell 2
          have t3 : wq.cell? ⟨zb, 3, none⟩ = some (.int .i64 re.uid) := ZB.out.cell 3
          have t4 : wq.cell? ⟨zb, 4, none⟩ = some (.int .i64 re.gid) := ZB.out.cell 4
          have t5 : wq.cell? ⟨zb, 5, none⟩ = some (.int .i64 re.size) := ZB.out.cell 5
          have t6 : wq.cell? ⟨zb, 6, none⟩ = some (.int .i64 re.sec) := ZB.out.cell 6
          have t7 : wq.cell? ⟨zb, 7, none⟩ = some (.int .i64 re.nano) := ZB.out.cell 7
          have t8 : wq.cell? ⟨zb, 8, none⟩ = some (.string (bs re.link)) := ZB.out.cell 8
          have t9 : wq.cell? ⟨zb, 9, none⟩ = some (.string (bs re.user)) := ZB.out.cell 9
          have t10 : wq.cell? ⟨zb, 10, none⟩ = some (.string (bs re.group)) := ZB.out.cell 10
          have t11 : wq.cell? ⟨zb, 11, none⟩ = some (.int .i64 re.major) := ZB.out.cell 11
          have t12 : wq.cell? ⟨zb, 12, none⟩ = some (.int .i64 re.minor) := ZB.out.cell 12
          have t13 : wq.cell? ⟨zb, 13, none⟩ = some (.string (bs re.data)) := ZB.out.cell 13
          have t14 : wq.cell? ⟨zb, 14, none⟩ = some (.slice XA xn xc) := ZB.out.cell 14
          go_wp2_with fail
          refine PP.out.mono ?_
          rintro e w2 ⟨rfl, hb2⟩
          have K2 := Lib.hid (HK.out.below (thenB HQB.out hb2) hbw)
          have G2 := Lib.hid (only_trans HW.out (only_of_below (thenB HQB.out hb2) (some b)))
          clear hb2 PP
          go_wp2_with fail
          go_roundg (l.length - (j + 1))
          case measure => have := HG.out; omega
          case rel =>
            refine ⟨i, j + 1, cr, rfl, by go_num, by omega, by omega, rfl, G2.out, K2.out, Lib.hid (HSK.out HQ.out.symm), Lib.hid ?_⟩
            rw [HKS.out, ← HQ.out, HL.out]
            simp
      · obtain rfl : j = l.length := by omega
        have hltI : ¬ (l.length : Int) < (l.length : Int) := by omega
        have hsz := HI.out.size
        have hft := HI.out.fits
        obtain ⟨cr', hs', hlow, hclr⟩ := clear_row (P := Tryz.prog) wr 26 40 0 _ Tryz.underlying26 HZ.out (by intro u hu; simp [Value.cells] at hu; rcases hu with rfl | rfl | rfl | rfl | rfl | rfl | rfl | rfl | rfl | rfl | rfl | rfl | rfl | rfl | rfl <;> rfl) b (i * 15) (l.length - i) (c - i) cr T HK.out (by omega) (by rw [show (Value.agg #[.string ⟨#[]⟩, .int .u8 0, .int .i64 0, .int .i64 0, .int .i64 0, .int .i64 0, .int .i64 0, .int .i64 0, .string ⟨#[]⟩, .string ⟨#[]⟩, .string ⟨#[]⟩, .int .i64 0, .int .i64 0, .string ⟨#[]⟩, .slice none 0 0] : Value).cells.size = 15 from rfl]; omega)
        have HLW := Lib.hid hlow
        have HS' := Lib.hid hs'
        have HSZ := Lib.hid hsz
        clear hsz hft hlow hs'
        go_wp2_with fail
        go_ret
        have hL := HL.out
        rw [List.take_length] at hL
        have hblk' : Blk (wr.setRow b cr') b T cr' := HK.out.row cr'
        refine ⟨by rw [hL]; rfl, ⟨cr', hblk', by rw [HS'.out, HSZ.out]⟩, fun m hm k hk => ?_, only_setRow HW.out (.inl rfl) _⟩
        have := HI.out.done (Nat.le_refl _) (cr' := cr') (fun i' h => HLW.out i' (by omega)) m hm k hk
        rw [Nat.zero_add, hblk'.cell]
        exact this

/-- slices.DeleteFunc at members of the call's own. -/
theorem deleteE_any {w : World} {B : Nat} {v : Value} {l : List (Ent × Value)} (h : EntsIn w B v l) (p : Ent × Value → Bool) (g : Nat) (lb : Array Value) (eg : ∀ args w, (callFunc g args).run Tryz.prog w = .ok (.enter g args) w) (hl : l.length ≤ 1000)
    (hp : ∀ r ∈ l, ∀ w', w.grownBy w' v.ownBlock → Calls Tryz.prog g (#[ev r.1 r.2] ++ lb) w' fun e w'' => e = .returned (.bool (p r)) ∧ Below w'.heap.size w' w'') :
    Calls Tryz.prog 79 #[v, .func (.func g) #[] lb] w fun e w' => ∃ v', e = .returned v' ∧ EntsIn w' B v' (l.filter fun r => !p r) ∧ w.grownBy w' v.ownBlock := by
  obtain ⟨⟨h1, hw⟩, hpc⟩ := id h
  rcases hw with ⟨rfl, h0⟩ | ⟨b, c, cur, rfl, hB, hg, hc, hcm, hcs, ht⟩
  · obtain rfl := List.length_eq_zero_iff.1 h0
    exact (deleteE_none h.at_ (by simp) g lb eg (fun s hs => by cases hs)).mono fun e w' ⟨he, hw⟩ => ⟨_, he, EntsIn.nil w' B, only_of_below hw _⟩
  · have hrow : RowE w b 0 l := by
      rcases h.ways with ⟨h0, _⟩ | ⟨g', c', e', _, _, _, _, _, hr⟩
      · cases h0
      · cases e'
        intro j hj k hk
        rw [Nat.zero_add]
        exact hr j hj k hk
    refine (deleteE_rows l b c _ cur p g lb eg w hg hrow (by omega) hl hc (by unfold maxLen at hcm; exact hcm) (fun r hr => by
      obtain ⟨qs, _, h2⟩ := hpc r hr
      obtain ⟨_, h2⟩ := h2
      rcases h2 with ⟨h2, _⟩ | ⟨g2, c2, _, h2, _⟩
      · exact ⟨_, _, _, h2⟩
      · exact ⟨_, _, _, h2⟩) hp).mono fun e w' ⟨he, ⟨cur', hb', hs'⟩, hr', hg'⟩ => ⟨_, he, ⟨?_, ?_⟩, hg'⟩
    · have hle : (l.filter fun r => !p r).length ≤ l.length := List.length_filter_le _ _
      generalize hF : (l.filter fun r => !p r) = F at hle hr' ⊢
      have htl := enCells_len F
      refine ⟨htl, .inr ⟨b, c, cur', rfl, hB, hb', by omega, hcm, by rw [hs', hcs], ?_⟩⟩
      apply List.ext_getElem?
      intro i
      by_cases hi : i < F.length * 15
      · rw [List.getElem?_take, if_pos hi, Array.getElem?_toList, ← hb'.cell]
        have hj : i / 15 < F.length := by omega
        have c1 := hr' (i / 15) hj (i % 15) (by omega)
        have c2 := enCells_get F (i / 15) (i % 15) hj (by omega)
        rw [Nat.zero_add, show i / 15 * 15 + i % 15 = i by omega] at c1
        rw [show i / 15 * 15 + i % 15 = i by omega] at c2
        rw [c1, c2]
      · rw [List.getElem?_eq_none (by rw [List.length_take]; omega), List.getElem?_eq_none (by rw [htl]; omega)]
    · rintro q hq
      obtain ⟨qs, e1, h2⟩ := hpc q (List.mem_filter.1 hq).1
      exact ⟨qs, e1, World.ownsRow.kept h2 hg' (own_apart h2 ⟨h1, .inr ⟨b, c, cur, rfl, hB, hg, hc, hcm, hcs, ht⟩⟩ (by decide))⟩

end Go.Proofs.YtipajekehbpghaaGreatDoor

namespace Go.Proofs.YtipajekehbpghaaGreatDoor
open Go.RowKit Go.Maps Tre Pk

theorem hasT_setS {x : World} {B pb : Nat} {v : Value} {l : List (List UInt8)} {cs : Array Value} (h : HasT x B v l) (hp : Blk x pb 28 cs) (u : Value) : HasT (x.setCell ⟨pb, 0, none⟩ u) B v l :=
  h.kept (only_setCell (only_refl x (some pb)) (.inl rfl) u) (fun q hq e => by
    subst e
    rcases h.ways with ⟨rfl, _⟩ | ⟨g, c, cur, rfl, _, _, _, hb, _⟩
    · cases hq
    · cases hq
      have := hb.symm.trans hp
      injection this with this
      injection this with _ e3
      exact absurd e3 (by decide))
theorem EntsIn.own_le {w : World} {B : Nat} {v : Value} {ps : List (Ent × Value)} (h : EntsIn w B v ps) : ∀ g, v.ownBlock = some g → B ≤ g := by
  intro g hg
  rcases h.ways with ⟨rfl, _⟩ | ⟨g', c, rfl, h1, _⟩
  · cases hg
  · cases hg
    exact h1

set_option maxRecDepth 100000 in
set_option maxHeartbeats 8000000 in
theorem changed_any {w : World} {g1 : Nat} {on1 of1 : Option Nat} {old : T} {g2 : Nat} {on2 of2 : Option Nat} {now : T} (hm : ML w) (h1 : TreeAt w g1 on1 of1 old) (h2 : TreeAt w g2 on2 of2 now) (ht1 : Std old) (ht2 : Std now) (hx1 : old.nx ≤ 100000) (hx2 : now.nx ≤ 100000) (holes : Bool) (hnl : ∀ e ∈ list now holes, e.name.length ≤ 1000) :
    Calls Tryz.prog 35 #[.pointer (some ⟨g1, 0, none⟩), .pointer (some ⟨g2, 0, none⟩), .bool holes] w (ListPost w (changed_ old now holes)) := by
  obtain ⟨W, hW⟩ : ∃ W, W = (w.alloc (.cells #[.pointer (some ⟨g1, 0, none⟩)] 24)).alloc (.cells #[.pointer (some ⟨g2, 0, none⟩)] 24) := ⟨_, rfl⟩
  have HB0 := Lib.hid (show Below w.heap.size w W by rw [hW]; exact ((Below.refl _ _).alloc (Nat.le_refl _) _).alloc (by simp) _)
  have hWs : W.heap.size = w.heap.size + 2 := by rw [hW]; simp
  have K1 := Lib.hid (show Blk W w.heap.size 24 #[.pointer (some ⟨g1, 0, none⟩)] by rw [hW]; exact (Blk.new w 24 _).alloc _)
  have K2 := Lib.hid (show Blk W (w.heap.size + 1) 24 #[.pointer (some ⟨g2, 0, none⟩)] by
    have := Blk.new (w.alloc (.cells #[.pointer (some ⟨g1, 0, none⟩)] 24)) 24 #[.pointer (some ⟨g2, 0, none⟩)]
    rw [show (w.alloc (.cells #[.pointer (some ⟨g1, 0, none⟩)] 24)).heap.size = w.heap.size + 1 by simp] at this
    rw [hW]; exact this)
  have T1 := Lib.hid (h1.below HB0.out)
  have T2 := Lib.hid (h2.below HB0.out)
  have HM := Lib.hid (hm.below HB0.out)
  have HW := Lib.hid hW
  have HS1 := Lib.hid ht1
  have HS2 := Lib.hid ht2
  have HAL := Lib.hid (show ∀ x ∈ old.names ++ now.names, x.length ≤ 1000 from fun x hx => by
    rcases List.mem_append.1 hx with hx | hx
    · obtain ⟨_, _, hr, _⟩ := ht1.name hx; have := (right_len hr).1; omega
    · obtain ⟨_, _, hr, _⟩ := ht2.name hx; have := (right_len hr).1; omega)
  have HNL := Lib.hid hnl
  have hln : old.names.length ≤ 60 := by rw [names_len]; exact ht1.cn
  have hlm : now.names.length ≤ 60 := by rw [names_len]; exact ht2.cn
  have hll := list_len now holes
  have NA := Lib.hid (fun w' (hb : Below W.heap.size W w') => names_any (T1.out.below hb) HS1.out (HM.out.below hb))
  have NB := Lib.hid (fun w' (hb : Below W.heap.size W w') => names_any (T2.out.below hb) HS2.out (HM.out.below hb))
  have LI := Lib.hid (fun w' (hb : Below W.heap.size W w') => list_any (T2.out.below hb) HS2.out hx2 (HM.out.below hb) holes)
  have KC := Lib.hid (fun w' (hb : Below W.heap.size W w') => (show w'.cell? ⟨w.heap.size, 0, none⟩ = some (.pointer (some ⟨g1, 0, none⟩)) ∧ w'.cell? ⟨w.heap.size + 1, 0, none⟩ = some (.pointer (some ⟨g2, 0, none⟩)) ∧ Below W.heap.size W w' from ⟨(K1.out.below hb (by omega)).cell 0, (K2.out.below hb (by omega)).cell 0, hb⟩))
  have bw := Below.refl W.heap.size W
  clear hm h1 h2 ht1 ht2 hnl hW
  obtain ⟨N1, hN1⟩ : ∃ N, N = old.names := ⟨_, rfl⟩
  obtain ⟨N2, hN2⟩ : ∃ N, N = now.names := ⟨_, rfl⟩
  rw [← hN1] at NA hln
  rw [← hN2] at NB hlm hll
  have HN1 := Lib.hid hN1
  have HN2 := Lib.hid hN2
  clear hN1 hN2
  go_enter Tryz.func35, Tryz.ntmps35
  repeat' ((fail_if_success (with_reducible refine halt_at 1 ?_)); first | go_values | go_skip | go_guarded | go_step | go_upon | go_back | (simp only [Int.not_lt, Int.not_le] at *; go_simp) | (go_values <;> (try go_simp)) | (go_ite <;> go_prune <;> (try go_simp)) | (split <;> (first | (rename_i hx; exact (hx _ rfl).elim) | go_prune)))
  rw [← HW.out]
  clear HW
  go_cut [7] (fun s7 wx => ∃ pb x, s7 = .pointer (some ⟨pb, 0, none⟩) ∧ x = wx ∧ W.heap.size ≤ pb ∧ Hid (Below W.heap.size W x) ∧ Hid (∃ X c, Blk x pb 28 #[.slice X (N1 ++ N2).length c] ∧ HasT x W.heap.size (.slice X (N1 ++ N2).length c) (N1 ++ N2)))
  case first =>
    refine wp_region_held_drew (S := fun w' => w'.cell? ⟨w.heap.size, 0, none⟩ = some (.pointer (some ⟨g1, 0, none⟩)) ∧ w'.cell? ⟨w.heap.size + 1, 0, none⟩ = some (.pointer (some ⟨g2, 0, none⟩)) ∧ Below W.heap.size W w') (by kernel_rfl) (KC.out _ (Below.drew bw)) (fun hHeld => ?_)
    refine wpAnyH_takeD (i := 0) (d := 9) (listed' := #[true, false, false, false, false, false, false, false]) (v := ?_) rfl (by kernel_rfl) (by kernel_rfl) (by kernel_rfl) (by kernel_rfl) (by kernel_rfl) (fun _ _ _ h => h) (Or.inl ⟨by kernel_rfl, ?_⟩) (by assumption) ?_; rotate_left; (focus (intro w hSw; (try dsimp only at hSw); go_simp; (try with_reducible rfl))); (try simp only [List.foldl_cons, List.foldl_nil, Act.put, List.setIfInBounds_toArray, List.set_cons_zero, List.set_cons_succ])
    refine wpAnyH_takeD (i := 2) (d := 11) (listed' := #[true, false, true, false, false, false, false, false]) (v := ?_) rfl (by kernel_rfl) (by kernel_rfl) (by kernel_rfl) (by kernel_rfl) (by kernel_rfl) (fun _ _ _ h => h) (Or.inl ⟨by kernel_rfl, ?_⟩) (by assumption) ?_; rotate_left; (focus (intro w hSw; (try dsimp only at hSw); go_simp; (try with_reducible rfl))); (try simp only [List.foldl_cons, List.foldl_nil, Act.put, List.setIfInBounds_toArray, List.set_cons_zero, List.set_cons_succ])
    obtain ⟨x0, hx0⟩ : ∃ x, x = W.drew := ⟨_, rfl⟩
    have BD := Lib.hid (show Below W.heap.size W x0 by rw [hx0]; exact Below.drew bw)
    rw [← hx0]
    clear hx0 hHeld
    refine wpAnyH_ready (rs := [1, 6]) (by kernel_rfl) (by simp) ?_
    refine AllReadyH.cons rfl (fun K hK => ?_) (AllReadyH.cons rfl (fun K hK => ?_) AllReadyH.nil)
    · go_simp
      refine (NA.out _ BD.out).mono ?_
      rintro e x1 ⟨v, rfl, hv, hx⟩
      obtain ⟨X1, c1, rfl, _⟩ := hv.form
      have V11 := Lib.hid (hv.mono (B' := W.heap.size) BD.out.size)
      have B1 := Lib.hid (thenB BD.out hx)
      clear hv hx
      refine hK.out _ _ (KC.out _ B1.out) (fun hHeld1 => ?_)
      clear hK K
      (try simp only [List.foldl_cons, List.foldl_nil, Act.put, List.setIfInBounds_toArray, List.set_cons_zero, List.set_cons_succ])
      refine wpAnyH_ready (rs := [3, 6]) (by kernel_rfl) (by simp) ?_
      refine AllReadyH.cons rfl (fun K hK => ?_) (AllReadyH.cons rfl (fun K hK => ?_) AllReadyH.nil)
      · go_simp
        refine (NB.out _ B1.out).mono ?_
        rintro e x2 ⟨v, rfl, hv, hx⟩
        obtain ⟨X2, c2, rfl, _⟩ := hv.form
        have V22 := Lib.hid (hv.mono (B' := W.heap.size) B1.out.size)
        have V12 := Lib.hid (V11.out.later hx)
        have B2 := Lib.hid (thenB B1.out hx)
        clear hv hx
        refine hK.out _ _ (KC.out _ B2.out) (fun hHeld2 => ?_)
        clear hK K
        (try simp only [List.foldl_cons, List.foldl_nil, Act.put, List.setIfInBounds_toArray, List.set_cons_zero, List.set_cons_succ])
        refine wpAnyH_ready (rs := [4, 6]) (by kernel_rfl) (by simp) ?_
        refine AllReadyH.cons rfl (fun K hK => ?_) (AllReadyH.cons rfl (fun K hK => ?_) AllReadyH.nil)
        · go_simp
          obtain ⟨x3, hx3⟩ : ∃ x, x = x2.alloc (.cells #[.slice X1 N1.length c1, .slice X2 N2.length c2] 28) := ⟨_, rfl⟩
          have hx : Below x2.heap.size x2 x3 := by rw [hx3]; exact (Below.refl _ _).alloc (Nat.le_refl _) _
          have G3 := Lib.hid (show Blk x3 x2.heap.size 28 #[.slice X1 N1.length c1, .slice X2 N2.length c2] by rw [hx3]; exact Blk.new x2 28 _)
          have V13 := Lib.hid (V12.out.later hx)
          have V23 := Lib.hid (V22.out.later hx)
          have B3 := Lib.hid (thenB B2.out hx)
          rw [← hx3]
          obtain ⟨gb, hgb⟩ : ∃ gb, gb = x2.heap.size := ⟨_, rfl⟩
          rw [← hgb] at G3 ⊢
          clear hx hx3 hgb
          refine hK.out _ _ (KC.out _ B3.out) (fun hHeld3 => ?_)
          clear hK K
          (try simp only [List.foldl_cons, List.foldl_nil, Act.put, List.setIfInBounds_toArray, List.set_cons_zero, List.set_cons_succ])
          refine wpAnyH_ready (rs := [5, 6]) (by kernel_rfl) (by simp) ?_
          refine AllReadyH.cons rfl (fun K hK => ?_) (AllReadyH.cons rfl (fun K hK => ?_) AllReadyH.nil)
          · go_simp
            refine (concat_anyT (w0 := W) (by omega) (by omega) (G3.out.cell 0) (G3.out.cell 1) V13.out V23.out).mono ?_
            rintro e x4 ⟨v, rfl, hv, hx⟩
            obtain ⟨X3, c3, rfl, _⟩ := hv.form
            have V34 := Lib.hid (hv.mono (B' := W.heap.size) B3.out.size)
            have V14 := Lib.hid (V13.out.later hx)
            have V24 := Lib.hid (V23.out.later hx)
            have G4 := Lib.hid (G3.out.below hx G3.out.lt)
            have B4 := Lib.hid (thenB B3.out hx)
            clear hv hx
            refine hK.out _ _ (KC.out _ B4.out) (fun hHeld4 => ?_)
            clear hK K
            (try simp only [List.foldl_cons, List.foldl_nil, Act.put, List.setIfInBounds_toArray, List.set_cons_zero, List.set_cons_succ])
            refine wpAnyH_ready (rs := [6]) (by kernel_rfl) (by simp) ?_
            refine AllReadyH.cons rfl (fun K hK => ?_) AllReadyH.nil
            · go_simp
              obtain ⟨x5, hx5⟩ : ∃ x, x = x4.alloc (.cells #[.slice none 0 0] 28) := ⟨_, rfl⟩
              have hx : Below x4.heap.size x4 x5 := by rw [hx5]; exact (Below.refl _ _).alloc (Nat.le_refl _) _
              have P5 := Lib.hid (show Blk x5 x4.heap.size 28 #[.slice none 0 0] by rw [hx5]; exact Blk.new x4 28 _)
              have V15 := Lib.hid (V14.out.later hx)
              have V25 := Lib.hid (V24.out.later hx)
              have G5 := Lib.hid (G4.out.below hx G4.out.lt)
              have V35 := Lib.hid (V34.out.later hx)
              have B5 := Lib.hid (thenB B4.out hx)
              rw [← hx5]
              obtain ⟨pb, hpb⟩ : ∃ pb, pb = x4.heap.size := ⟨_, rfl⟩
              have hpz : W.heap.size ≤ pb := by rw [hpb]; exact B4.out.size
              rw [← hpb] at P5 ⊢
              clear hx hx5 hpb
              refine hK.out _ _ (KC.out _ B5.out) (fun hHeld5 => ?_)
              clear hK K
              (try simp only [List.foldl_cons, List.foldl_nil, Act.put, List.setIfInBounds_toArray, List.set_cons_zero, List.set_cons_succ])
              refine wpAnyH_ready (rs := [7]) (by kernel_rfl) (by simp) ?_
              refine AllReadyH.cons rfl (fun K hK => ?_) AllReadyH.nil
              · have cp : x5.cell? ⟨pb, 0, none⟩ = some (.slice none 0 0) := P5.out.cell 0
                have fp := P5.out.frozen 0
                have lp := P5.out.lt
                go_simp
                refine hK.out _ _ (KC.out _ (below_setS B5.out hpz _)) (fun hHeldZ => ?_)
                clear hK K
                (try simp only [List.foldl_cons, List.foldl_nil, Act.put, List.setIfInBounds_toArray, List.set_cons_zero, List.set_cons_succ])
                refine wpAnyH_done (by kernel_rfl) ?_ _
                go_wp2_with fail
                go_meet
                exact ⟨pb, _, rfl, rfl, hpz, Lib.hid (below_setS B5.out hpz _), Lib.hid ⟨X3, c3, by rw [List.length_append]; exact P5.out.set_ 0 _, hasT_setS V35.out P5.out _⟩⟩
          · go_simp
            obtain ⟨x7, hx7⟩ : ∃ x, x = x3.alloc (.cells #[.slice none 0 0] 28) := ⟨_, rfl⟩
            have hx : Below x3.heap.size x3 x7 := by rw [hx7]; exact (Below.refl _ _).alloc (Nat.le_refl _) _
            have P7 := Lib.hid (show Blk x7 x3.heap.size 28 #[.slice none 0 0] by rw [hx7]; exact Blk.new x3 28 _)
            have V17 := Lib.hid (V13.out.later hx)
            have V27 := Lib.hid (V23.out.later hx)
            have G7 := Lib.hid (G3.out.below hx G3.out.lt)
            have B7 := Lib.hid (thenB B3.out hx)
            rw [← hx7]
            obtain ⟨pb, hpb⟩ : ∃ pb, pb = x3.heap.size := ⟨_, rfl⟩
            have hpz : W.heap.size ≤ pb := by rw [hpb]; exact B3.out.size
            rw [← hpb] at P7 ⊢
            clear hx hx7 hpb
            refine hK.out _ _ (KC.out _ B7.out) (fun hHeld7 => ?_)
            clear hK K
            (try simp only [List.foldl_cons, List.foldl_nil, Act.put, List.setIfInBounds_toArray, List.set_cons_zero, List.set_cons_succ])
            refine wpAnyH_ready (rs := [5]) (by kernel_rfl) (by simp) ?_
            refine AllReadyH.cons rfl (fun K hK => ?_) AllReadyH.nil
            · go_simp
              refine (concat_anyT (w0 := W) (by omega) (by omega) (G7.out.cell 0) (G7.out.cell 1) V17.out V27.out).mono ?_
              rintro e x8 ⟨v, rfl, hv, hx⟩
              obtain ⟨X3, c3, rfl, _⟩ := hv.form
              have V38 := Lib.hid (hv.mono (B' := W.heap.size) B7.out.size)
              have V18 := Lib.hid (V17.out.later hx)
              have V28 := Lib.hid (V27.out.later hx)
              have G8 := Lib.hid (G7.out.below hx G7.out.lt)
              have P8 := Lib.hid (P7.out.below hx P7.out.lt)
              have B8 := Lib.hid (thenB B7.out hx)
              clear hv hx
              refine hK.out _ _ (KC.out _ B8.out) (fun hHeld8 => ?_)
              clear hK K
              (try simp only [List.foldl_cons, List.foldl_nil, Act.put, List.setIfInBounds_toArray, List.set_cons_zero, List.set_cons_succ])
              refine wpAnyH_ready (rs := [7]) (by kernel_rfl) (by simp) ?_
              refine AllReadyH.cons rfl (fun K hK => ?_) AllReadyH.nil
              · have cp : x8.cell? ⟨pb, 0, none⟩ = some (.slice none 0 0) := P8.out.cell 0
                have fp := P8.out.frozen 0
                have lp := P8.out.lt
                go_simp
                refine hK.out _ _ (KC.out _ (below_setS B8.out hpz _)) (fun hHeldZ => ?_)
                clear hK K
                (try simp only [List.foldl_cons, List.foldl_nil, Act.put, List.setIfInBounds_toArray, List.set_cons_zero, List.set_cons_succ])
                refine wpAnyH_done (by kernel_rfl) ?_ _
                go_wp2_with fail
                go_meet
                exact ⟨pb, _, rfl, rfl, hpz, Lib.hid (below_setS B8.out hpz _), Lib.hid ⟨X3, c3, by rw [List.length_append]; exact P8.out.set_ 0 _, hasT_setS V38.out P8.out _⟩⟩
        · go_simp
          obtain ⟨x10, hx10⟩ : ∃ x, x = x2.alloc (.cells #[.slice none 0 0] 28) := ⟨_, rfl⟩
          have hx : Below x2.heap.size x2 x10 := by rw [hx10]; exact (Below.refl _ _).alloc (Nat.le_refl _) _
          have P10 := Lib.hid (show Blk x10 x2.heap.size 28 #[.slice none 0 0] by rw [hx10]; exact Blk.new x2 28 _)
          have V110 := Lib.hid (V12.out.later hx)
          have V210 := Lib.hid (V22.out.later hx)
          have B10 := Lib.hid (thenB B2.out hx)
          rw [← hx10]
          obtain ⟨pb, hpb⟩ : ∃ pb, pb = x2.heap.size := ⟨_, rfl⟩
          have hpz : W.heap.size ≤ pb := by rw [hpb]; exact B2.out.size
          rw [← hpb] at P10 ⊢
          clear hx hx10 hpb
          refine hK.out _ _ (KC.out _ B10.out) (fun hHeld10 => ?_)
          clear hK K
          (try simp only [List.foldl_cons, List.foldl_nil, Act.put, List.setIfInBounds_toArray, List.set_cons_zero, List.set_cons_succ])
          refine wpAnyH_ready (rs := [4]) (by kernel_rfl) (by simp) ?_
          refine AllReadyH.cons rfl (fun K hK => ?_) AllReadyH.nil
          · go_simp
            obtain ⟨x11, hx11⟩ : ∃ x, x = x10.alloc (.cells #[.slice X1 N1.length c1, .slice X2 N2.length c2] 28) := ⟨_, rfl⟩
            have hx : Below x10.heap.size x10 x11 := by rw [hx11]; exact (Below.refl _ _).alloc (Nat.le_refl _) _
            have G11 := Lib.hid (show Blk x11 x10.heap.size 28 #[.slice X1 N1.length c1, .slice X2 N2.length c2] by rw [hx11]; exact Blk.new x10 28 _)
            have V111 := Lib.hid (V110.out.later hx)
            have V211 := Lib.hid (V210.out.later hx)
            have P11 := Lib.hid (P10.out.below hx P10.out.lt)
            have B11 := Lib.hid (thenB B10.out hx)
            rw [← hx11]
            obtain ⟨gb, hgb⟩ : ∃ gb, gb = x10.heap.size := ⟨_, rfl⟩
            rw [← hgb] at G11 ⊢
            clear hx hx11 hgb
            refine hK.out _ _ (KC.out _ B11.out) (fun hHeld11 => ?_)
            clear hK K
            (try simp only [List.foldl_cons, List.foldl_nil, Act.put, List.setIfInBounds_toArray, List.set_cons_zero, List.set_cons_succ])
            refine wpAnyH_ready (rs := [5]) (by kernel_rfl) (by simp) ?_
            refine AllReadyH.cons rfl (fun K hK => ?_) AllReadyH.nil
            · go_simp
              refine (concat_anyT (w0 := W) (by omega) (by omega) (G11.out.cell 0) (G11.out.cell 1) V111.out V211.out).mono ?_
              rintro e x12 ⟨v, rfl, hv, hx⟩
              obtain ⟨X3, c3, rfl, _⟩ := hv.form
              have V312 := Lib.hid (hv.mono (B' := W.heap.size) B11.out.size)
              have V112 := Lib.hid (V111.out.later hx)
              have V212 := Lib.hid (V211.out.later hx)
              have P12 := Lib.hid (P11.out.below hx P11.out.lt)
              have G12 := Lib.hid (G11.out.below hx G11.out.lt)
              have B12 := Lib.hid (thenB B11.out hx)
              clear hv hx
              refine hK.out _ _ (KC.out _ B12.out) (fun hHeld12 => ?_)
              clear hK K
              (try simp only [List.foldl_cons, List.foldl_nil, Act.put, List.setIfInBounds_toArray, List.set_cons_zero, List.set_cons_succ])
              refine wpAnyH_ready (rs := [7]) (by kernel_rfl) (by simp) ?_
              refine AllReadyH.cons rfl (fun K hK => ?_) AllReadyH.nil
              · have cp : x12.cell? ⟨pb, 0, none⟩ = some (.slice none 0 0) := P12.out.cell 0
                have fp := P12.out.frozen 0
                have lp := P12.out.lt
                go_simp
                refine hK.out _ _ (KC.out _ (below_setS B12.out hpz _)) (fun hHeldZ => ?_)
                clear hK K
                (try simp only [List.foldl_cons, List.foldl_nil, Act.put, List.setIfInBounds_toArray, List.set_cons_zero, List.set_cons_succ])
                refine wpAnyH_done (by kernel_rfl) ?_ _
                go_wp2_with fail
                go_meet
                exact ⟨pb, _, rfl, rfl, hpz, Lib.hid (below_setS B12.out hpz _), Lib.hid ⟨X3, c3, by rw [List.length_append]; exact P12.out.set_ 0 _, hasT_setS V312.out P12.out _⟩⟩
      · go_simp
        obtain ⟨x14, hx14⟩ : ∃ x, x = x1.alloc (.cells #[.slice none 0 0] 28) := ⟨_, rfl⟩
        have hx : Below x1.heap.size x1 x14 := by rw [hx14]; exact (Below.refl _ _).alloc (Nat.le_refl _) _
        have P14 := Lib.hid (show Blk x14 x1.heap.size 28 #[.slice none 0 0] by rw [hx14]; exact Blk.new x1 28 _)
        have V114 := Lib.hid (V11.out.later hx)
        have B14 := Lib.hid (thenB B1.out hx)
        rw [← hx14]
        obtain ⟨pb, hpb⟩ : ∃ pb, pb = x1.heap.size := ⟨_, rfl⟩
        have hpz : W.heap.size ≤ pb := by rw [hpb]; exact B1.out.size
        rw [← hpb] at P14 ⊢
        clear hx hx14 hpb
        refine hK.out _ _ (KC.out _ B14.out) (fun hHeld14 => ?_)
        clear hK K
        (try simp only [List.foldl_cons, List.foldl_nil, Act.put, List.setIfInBounds_toArray, List.set_cons_zero, List.set_cons_succ])
        refine wpAnyH_ready (rs := [3]) (by kernel_rfl) (by simp) ?_
        refine AllReadyH.cons rfl (fun K hK => ?_) AllReadyH.nil
        · go_simp
          refine (NB.out _ B14.out).mono ?_
          rintro e x15 ⟨v, rfl, hv, hx⟩
          obtain ⟨X2, c2, rfl, _⟩ := hv.form
          have V215 := Lib.hid (hv.mono (B' := W.heap.size) B14.out.size)
          have V115 := Lib.hid (V114.out.later hx)
          have P15 := Lib.hid (P14.out.below hx P14.out.lt)
          have B15 := Lib.hid (thenB B14.out hx)
          clear hv hx
          refine hK.out _ _ (KC.out _ B15.out) (fun hHeld15 => ?_)
          clear hK K
          (try simp only [List.foldl_cons, List.foldl_nil, Act.put, List.setIfInBounds_toArray, List.set_cons_zero, List.set_cons_succ])
          refine wpAnyH_ready (rs := [4]) (by kernel_rfl) (by simp) ?_
          refine AllReadyH.cons rfl (fun K hK => ?_) AllReadyH.nil
          · go_simp
            obtain ⟨x16, hx16⟩ : ∃ x, x = x15.alloc (.cells #[.slice X1 N1.length c1, .slice X2 N2.length c2] 28) := ⟨_, rfl⟩
            have hx : Below x15.heap.size x15 x16 := by rw [hx16]; exact (Below.refl _ _).alloc (Nat.le_refl _) _
            have G16 := Lib.hid (show Blk x16 x15.heap.size 28 #[.slice X1 N1.length c1, .slice X2 N2.length c2] by rw [hx16]; exact Blk.new x15 28 _)
            have V116 := Lib.hid (V115.out.later hx)
            have P16 := Lib.hid (P15.out.below hx P15.out.lt)
            have V216 := Lib.hid (V215.out.later hx)
            have B16 := Lib.hid (thenB B15.out hx)
            rw [← hx16]
            obtain ⟨gb, hgb⟩ : ∃ gb, gb = x15.heap.size := ⟨_, rfl⟩
            rw [← hgb] at G16 ⊢
            clear hx hx16 hgb
            refine hK.out _ _ (KC.out _ B16.out) (fun hHeld16 => ?_)
            clear hK K
            (try simp only [List.foldl_cons, List.foldl_nil, Act.put, List.setIfInBounds_toArray, List.set_cons_zero, List.set_cons_succ])
            refine wpAnyH_ready (rs := [5]) (by kernel_rfl) (by simp) ?_
            refine AllReadyH.cons rfl (fun K hK => ?_) AllReadyH.nil
            · go_simp
              refine (concat_anyT (w0 := W) (by omega) (by omega) (G16.out.cell 0) (G16.out.cell 1) V116.out V216.out).mono ?_
              rintro e x17 ⟨v, rfl, hv, hx⟩
              obtain ⟨X3, c3, rfl, _⟩ := hv.form
              have V317 := Lib.hid (hv.mono (B' := W.heap.size) B16.out.size)
              have V117 := Lib.hid (V116.out.later hx)
              have P17 := Lib.hid (P16.out.below hx P16.out.lt)
              have V217 := Lib.hid (V216.out.later hx)
              have G17 := Lib.hid (G16.out.below hx G16.out.lt)
              have B17 := Lib.hid (thenB B16.out hx)
              clear hv hx
              refine hK.out _ _ (KC.out _ B17.out) (fun hHeld17 => ?_)
              clear hK K
              (try simp only [List.foldl_cons, List.foldl_nil, Act.put, List.setIfInBounds_toArray, List.set_cons_zero, List.set_cons_succ])
              refine wpAnyH_ready (rs := [7]) (by kernel_rfl) (by simp) ?_
              refine AllReadyH.cons rfl (fun K hK => ?_) AllReadyH.nil
              · have cp : x17.cell? ⟨pb, 0, none⟩ = some (.slice none 0 0) := P17.out.cell 0
                have fp := P17.out.frozen 0
                have lp := P17.out.lt
                go_simp
                refine hK.out _ _ (KC.out _ (below_setS B17.out hpz _)) (fun hHeldZ => ?_)
                clear hK K
                (try simp only [List.foldl_cons, List.foldl_nil, Act.put, List.setIfInBounds_toArray, List.set_cons_zero, List.set_cons_succ])
                refine wpAnyH_done (by kernel_rfl) ?_ _
                go_wp2_with fail
                go_meet
                exact ⟨pb, _, rfl, rfl, hpz, Lib.hid (below_setS B17.out hpz _), Lib.hid ⟨X3, c3, by rw [List.length_append]; exact P17.out.set_ 0 _, hasT_setS V317.out P17.out _⟩⟩
    · go_simp
      obtain ⟨x19, hx19⟩ : ∃ x, x = x0.alloc (.cells #[.slice none 0 0] 28) := ⟨_, rfl⟩
      have hx : Below x0.heap.size x0 x19 := by rw [hx19]; exact (Below.refl _ _).alloc (Nat.le_refl _) _
      have P19 := Lib.hid (show Blk x19 x0.heap.size 28 #[.slice none 0 0] by rw [hx19]; exact Blk.new x0 28 _)
      have B19 := Lib.hid (thenB BD.out hx)
      rw [← hx19]
      obtain ⟨pb, hpb⟩ : ∃ pb, pb = x0.heap.size := ⟨_, rfl⟩
      have hpz : W.heap.size ≤ pb := by rw [hpb]; exact BD.out.size
      rw [← hpb] at P19 ⊢
      clear hx hx19 hpb
      refine hK.out _ _ (KC.out _ B19.out) (fun hHeld19 => ?_)
      clear hK K
      (try simp only [List.foldl_cons, List.foldl_nil, Act.put, List.setIfInBounds_toArray, List.set_cons_zero, List.set_cons_succ])
      refine wpAnyH_ready (rs := [1]) (by kernel_rfl) (by simp) ?_
      refine AllReadyH.cons rfl (fun K hK => ?_) AllReadyH.nil
      · go_simp
        refine (NA.out _ B19.out).mono ?_
        rintro e x20 ⟨v, rfl, hv, hx⟩
        obtain ⟨X1, c1, rfl, _⟩ := hv.form
        have V120 := Lib.hid (hv.mono (B' := W.heap.size) B19.out.size)
        have P20 := Lib.hid (P19.out.below hx P19.out.lt)
        have B20 := Lib.hid (thenB B19.out hx)
        clear hv hx
        refine hK.out _ _ (KC.out _ B20.out) (fun hHeld20 => ?_)
        clear hK K
        (try simp only [List.foldl_cons, List.foldl_nil, Act.put, List.setIfInBounds_toArray, List.set_cons_zero, List.set_cons_succ])
        refine wpAnyH_ready (rs := [3]) (by kernel_rfl) (by simp) ?_
        refine AllReadyH.cons rfl (fun K hK => ?_) AllReadyH.nil
        · go_simp
          refine (NB.out _ B20.out).mono ?_
          rintro e x21 ⟨v, rfl, hv, hx⟩
          obtain ⟨X2, c2, rfl, _⟩ := hv.form
          have V221 := Lib.hid (hv.mono (B' := W.heap.size) B20.out.size)
          have P21 := Lib.hid (P20.out.below hx P20.out.lt)
          have V121 := Lib.hid (V120.out.later hx)
          have B21 := Lib.hid (thenB B20.out hx)
          clear hv hx
          refine hK.out _ _ (KC.out _ B21.out) (fun hHeld21 => ?_)
          clear hK K
          (try simp only [List.foldl_cons, List.foldl_nil, Act.put, List.setIfInBounds_toArray, List.set_cons_zero, List.set_cons_succ])
          refine wpAnyH_ready (rs := [4]) (by kernel_rfl) (by simp) ?_
          refine AllReadyH.cons rfl (fun K hK => ?_) AllReadyH.nil
          · go_simp
            obtain ⟨x22, hx22⟩ : ∃ x, x = x21.alloc (.cells #[.slice X1 N1.length c1, .slice X2 N2.length c2] 28) := ⟨_, rfl⟩
            have hx : Below x21.heap.size x21 x22 := by rw [hx22]; exact (Below.refl _ _).alloc (Nat.le_refl _) _
            have G22 := Lib.hid (show Blk x22 x21.heap.size 28 #[.slice X1 N1.length c1, .slice X2 N2.length c2] by rw [hx22]; exact Blk.new x21 28 _)
            have P22 := Lib.hid (P21.out.below hx P21.out.lt)
            have V122 := Lib.hid (V121.out.later hx)
            have V222 := Lib.hid (V221.out.later hx)
            have B22 := Lib.hid (thenB B21.out hx)
            rw [← hx22]
            obtain ⟨gb, hgb⟩ : ∃ gb, gb = x21.heap.size := ⟨_, rfl⟩
            rw [← hgb] at G22 ⊢
            clear hx hx22 hgb
            refine hK.out _ _ (KC.out _ B22.out) (fun hHeld22 => ?_)
            clear hK K
            (try simp only [List.foldl_cons, List.foldl_nil, Act.put, List.setIfInBounds_toArray, List.set_cons_zero, List.set_cons_succ])
            refine wpAnyH_ready (rs := [5]) (by kernel_rfl) (by simp) ?_
            refine AllReadyH.cons rfl (fun K hK => ?_) AllReadyH.nil
            · go_simp
              refine (concat_anyT (w0 := W) (by omega) (by omega) (G22.out.cell 0) (G22.out.cell 1) V122.out V222.out).mono ?_
              rintro e x23 ⟨v, rfl, hv, hx⟩
              obtain ⟨X3, c3, rfl, _⟩ := hv.form
              have V323 := Lib.hid (hv.mono (B' := W.heap.size) B22.out.size)
              have P23 := Lib.hid (P22.out.below hx P22.out.lt)
              have V123 := Lib.hid (V122.out.later hx)
              have V223 := Lib.hid (V222.out.later hx)
              have G23 := Lib.hid (G22.out.below hx G22.out.lt)
              have B23 := Lib.hid (thenB B22.out hx)
              clear hv hx
              refine hK.out _ _ (KC.out _ B23.out) (fun hHeld23 => ?_)
              clear hK K
              (try simp only [List.foldl_cons, List.foldl_nil, Act.put, List.setIfInBounds_toArray, List.set_cons_zero, List.set_cons_succ])
              refine wpAnyH_ready (rs := [7]) (by kernel_rfl) (by simp) ?_
              refine AllReadyH.cons rfl (fun K hK => ?_) AllReadyH.nil
              · have cp : x23.cell? ⟨pb, 0, none⟩ = some (.slice none 0 0) := P23.out.cell 0
                have fp := P23.out.frozen 0
                have lp := P23.out.lt
                go_simp
                refine hK.out _ _ (KC.out _ (below_setS B23.out hpz _)) (fun hHeldZ => ?_)
                clear hK K
                (try simp only [List.foldl_cons, List.foldl_nil, Act.put, List.setIfInBounds_toArray, List.set_cons_zero, List.set_cons_succ])
                refine wpAnyH_done (by kernel_rfl) ?_ _
                go_wp2_with fail
                go_meet
                exact ⟨pb, _, rfl, rfl, hpz, Lib.hid (below_setS B23.out hpz _), Lib.hid ⟨X3, c3, by rw [List.length_append]; exact P23.out.set_ 0 _, hasT_setS V323.out P23.out _⟩⟩
  case rest =>
  obtain ⟨pb, x, rfl, rfl, hpz, BX, HX⟩ := hcut
  obtain ⟨XN, cN, hpx, hxt⟩ := HX.out
  have HPX := Lib.hid hpx
  have HXT := Lib.hid hxt
  clear hpx hxt HX
  repeat' ((fail_if_success (with_reducible refine halt_at 3 ?_)); first | go_values | go_skip | go_guarded | go_step | go_upon | go_back | (simp only [Int.not_lt, Int.not_le] at *; go_simp) | (go_values <;> (try go_simp)) | (go_ite <;> go_prune <;> (try go_simp)) | (split <;> (first | (rename_i hx; exact (hx _ rfl).elim) | go_prune)))
  obtain ⟨y, hy⟩ : ∃ y, y = x.alloc (.cells #[.func (.func 76) #[] #[.pointer (some ⟨pb, 0, none⟩), .pointer (some ⟨w.heap.size, 0, none⟩), .pointer (some ⟨w.heap.size + 1, 0, none⟩)]] 57) := ⟨_, rfl⟩
  rw [← hy]
  have hxy : Below x.heap.size x y := by rw [hy]; exact (Below.refl _ _).alloc (Nat.le_refl _) _
  have BY := Lib.hid (thenB BX.out hxy)
  have KA := Lib.hid (show Blk y x.heap.size 57 #[.func (.func 76) #[] #[.pointer (some ⟨pb, 0, none⟩), .pointer (some ⟨w.heap.size, 0, none⟩), .pointer (some ⟨w.heap.size + 1, 0, none⟩)]] by rw [hy]; exact Blk.new x 57 _)
  have KP := Lib.hid (HPX.out.below hxy HPX.out.lt)
  have KT := Lib.hid (HXT.out.later hxy)
  have hkc := KC.out _ BY.out
  obtain ⟨_, cn, _⟩ := hkc
  have lcn := World.block_lt_of_cell? y ⟨w.heap.size + 1, 0, none⟩ cn
  simp only at lcn
  clear hy BX hxy HPX HXT
  obtain ⟨pa, hpa⟩ : ∃ pa, pa = x.heap.size := ⟨_, rfl⟩
  rw [← hpa] at KA ⊢
  clear hpa
  go_wp2_with fail
  refine (LI.out _ BY.out).mono ?_
  rintro e y2 ⟨v2, ps, rfl, hps, hen, h2⟩
  have Y2 := Lib.hid h2
  have B2 := Lib.hid (thenB BY.out h2)
  have EI := Lib.hid hen
  have HPS := Lib.hid hps
  have hpl : ps.length ≤ 60 := by
    have : (ps.map Prod.fst).length = (list now holes).length := by rw [hps]
    rw [List.length_map] at this
    omega
  have DE := Lib.hid (deleteE_any hen (fun q => held old now q.1) 80 #[.pointer (some ⟨w.heap.size, 0, none⟩), .pointer (some ⟨w.heap.size + 1, 0, none⟩), .pointer (some ⟨pa, 0, none⟩)] (fun args w => by go_simp) (by omega) (fun p hp w' hg' => by
    have hyw := below_ofO Y2.out hg' Y2.out.size hen.own_le
    have hin : p.1 ∈ list now holes := by rw [← HPS.out]; exact List.mem_map_of_mem hp
    have hWw := thenB BY.out hyw
    refine changedC_any (T1.out.below hWw) (T2.out.below hWw) HS1.out hx1 HS2.out hx2 p.1 p.2 (HNL.out _ hin) _ _ _ pb w.heap.size (w.heap.size + 1) (KC.out _ hWw).1 (KC.out _ hWw).2.1 ((KA.out.below hyw KA.out.lt).cell 0) (fun w'' hb'' => ?_)
    have hyw2 := thenB hyw hb''
    have hWw2 := thenB BY.out hyw2
    rcases (KT.out.later hyw2).ways with ⟨_, h0⟩ | ⟨b3, c3, cur3, h3, _, hb3, _, _, _, _, hrow3⟩
    · exfalso
      have hz : now.names = [] := by
        have := congrArg List.length h0
        rw [List.length_append, HN2.out, List.length_nil] at this
        exact List.length_eq_zero_iff.1 (by omega)
      have : 0 < (list now holes).length := List.length_pos_of_mem hin
      rw [list_len, hz] at this
      cases this
    · have hc := (KP.out.below hyw2 KP.out.lt).cell 0
      have e3 : XN = some ⟨b3, 0, none⟩ := by injection h3
      subst e3
      rw [HN1.out, HN2.out] at hrow3 hc
      exact likeIn_any (T1.out.below hWw2) (T2.out.below hWw2) p.1.name (HNL.out _ hin) pb w.heap.size (w.heap.size + 1) b3 _ HAL.out (by rw [List.length_append, ← HN1.out, ← HN2.out]; omega) hb3 hrow3 hc (KC.out _ hWw2).1 (KC.out _ hWw2).2.1))
  obtain ⟨XA, xc, rfl⟩ := EI.out.form
  clear hps hen h2 cn lcn LI
  go_wp2_with fail
  refine DE.out.mono ?_
  rintro e y3 ⟨v3, rfl, hv3, g3⟩
  have B3 := Lib.hid (below_ofO B2.out g3 B2.out.size (fun q hq => Nat.le_trans BY.out.size (EI.out.own_le q hq)))
  have E3 := Lib.hid (hv3.mono (B' := w.heap.size) (by have := (thenB HB0.out BY.out).size; omega))
  have E30 := hv3.form
  obtain ⟨XB, xd, rfl⟩ := E30
  clear g3 hv3 DE
  go_wp2_with fail
  go_ret
  refine ⟨_, _, rfl, ?_, E3.out, thenB HB0.out B3.out⟩
  unfold changed_
  rw [← HPS.out, List.filter_map]
  rfl

end Go.Proofs.YtipajekehbpghaaGreatDoor
