/-
  softOn: how many parts the shortest prefix has that is a symbolic link.
-/
import Derived.Test.YtehooifcgfkngaaDoorTreeR
namespace Go.Proofs.YtehooifcgfkngaaDoor
open Go.RowKit Go.Maps Tre

theorem join_take {w : World} {b off cap : Nat} {P : List Pth.Bs} (hr : RowS w b off P) (hb : b < w.heap.size) (hc : P.length ≤ cap) (hn : P.length ≤ 100000) (hl : (Pth.join P).length ≤ 100000) (i : Nat) (hi : i ≤ P.length) :
    Calls Tryd.prog 43 #[.slice (some ⟨b, off, none⟩) i cap, .string ⟨#[47]⟩] w fun e w' => e = .returned (.string (bs (pre P i))) ∧ Below w.heap.size w w' := by
  have hlen : (P.take i).length = i := by rw [List.length_take]; omega
  have h := HasS.row (B := 0) (off := off) (W := w) (ps := P.take i) (b := b) (Nat.zero_le _) hb (cap := cap) (by omega) (fun j hj => by
    have hj' : j < P.length := by omega
    rw [hr j hj', List.getElem_take])
  rw [hlen] at h
  exact join_any h (by omega) (Nat.le_trans (pre_length P i) (by omega))

theorem soft_spec {t : T} {P : List Pth.Bs} (h : soft t P ≠ 0) : soft t P ≤ P.length ∧ t.isKind (pre P (soft t P)) 50 = true := by
  unfold soft at h ⊢
  cases e : (List.range P.length).find? fun i => t.isKind (pre P (i + 1)) 50 with
  | none => rw [e] at h; exact absurd rfl h
  | some i =>
    have h1 := List.find?_some e
    have h2 := List.mem_range.1 (List.mem_of_find?_eq_some e)
    exact ⟨by simp only; omega, h1⟩

set_option maxRecDepth 100000 in
set_option maxHeartbeats 4000000 in
theorem softOn_any {w : World} {g : Nat} {on of : Option Nat} {t : T} (h : TreeAt w g on of t) (ht : Std t) (hx : t.nx ≤ 100000) {b off cap : Nat} {P : List Pth.Bs} (hr : RowS w b off P) (hb : b < w.heap.size) (hc : P.length ≤ cap) (hn : P.length ≤ 100000) (hl : (Pth.join P).length ≤ 100000) :
    Calls Tryd.prog 42 #[.pointer (some ⟨g, 0, none⟩), .slice (some ⟨b, off, none⟩) P.length cap] w fun e w' => e = .returned (.int .i64 (soft t P)) ∧ Below w.heap.size w w' := by
  have hnn : ∀ s k, Tre.look t.ents s = some k → k ≤ 1000000 := fun s k h => by have := (ht.short h).2; omega
  have JN := Lib.hid (fun i (hi : i ≤ P.length) w' (hbl : Below w.heap.size w w') => join_take (hr.below hbl hb) (Nat.lt_of_lt_of_le hb hbl.size) hc hn hl i hi)
  have GT := Lib.hid (fun i w' (hbl : Below w.heap.size w w') => get_any (h.below hbl) (bs (pre P i)) (fun k hk => hnn _ k hk) (by rw [bs_size]; have := pre_length P i; omega))
  have hci : (P.length : Int) ≤ cap := by omega
  have hni : (P.length : Int) ≤ 100000 := by omega
  clear h hr hl hnn
  go_enter Tryd.func42, Tryd.ntmps42
  go_wp2_with fail
  go_loopg [5] (P.length) (fun gg iv wr => ∃ i : Nat, iv = .int .i64 i ∧ 1 ≤ i ∧ i + gg = P.length + 1 ∧ Hid (∀ j, 1 ≤ j → j < i → t.isKind (pre P j) 50 = false) ∧ Below w.heap.size w wr)
  case atStart => exact ⟨1, rfl, Nat.le_refl _, by omega, Lib.hid (fun j h1 h2 => by omega), Below.refl _ _⟩
  case round =>
    obtain ⟨i, rfl, hi1, hgg, HK, hbw⟩ := hrel
    have BW := Lib.hid hbw
    have HG := Lib.hid hgg
    clear hgg hbw
    by_cases hle : i ≤ P.length
    · have hlei : (i : Int) ≤ P.length := by omega
      have hlec : (i : Int) ≤ cap := by omega
      go_wp2_with fail
      refine (JN.out i hle _ BW.out).mono ?_
      rintro e w1 ⟨rfl, h1⟩
      have B1 := Lib.hid (thenB BW.out h1)
      clear h1
      have G1 := Lib.hid (GT.out i _ B1.out)
      rcases hlk : Tre.look t.ents (pre P i) with _ | k
      · have hgv : getV t (bs (pre P i)).data.toList = .tuple #[ndv zero, .iface 67 (.int .i64 7)] := getV_none (by rw [bs_list]; exact hlk)
        rw [hgv] at G1
        unfold ndv ndc zero at G1
        simp only at G1
        have hno : t.isKind (pre P i) 50 = false := by unfold T.isKind T.get; rw [hlk]; rfl
        have HNO := Lib.hid hno
        clear hgv hlk hno
        go_wp2_with fail
        refine G1.out.mono ?_
        rintro e w2 ⟨rfl, h2⟩
        have B2 := Lib.hid (thenB B1.out h2)
        clear h2
        go_wp2_with fail
        go_roundg (P.length - i)
        case measure => have := HG.out; omega
        case rel => exact ⟨i + 1, by go_num, by omega, by omega, Lib.hid (fun j h1 h2 => by
          by_cases e : j = i
          · rw [e]; exact HNO.out
          · exact HK.out j h1 (by omega)), B2.out.alloc B2.out.size _⟩
      · have hgv : getV t (bs (pre P i)).data.toList = .tuple #[ndv (t.file k), .nilIface] := getV_of (by rw [bs_list]; exact hlk)
        rw [hgv] at G1
        obtain ⟨n, hn⟩ : ∃ n, n = t.file k := ⟨_, rfl⟩
        rw [← hn] at G1
        have hkind : t.isKind (pre P i) 50 = (n.kind == 50) := by unfold T.isKind T.get; rw [hlk, hn]; rfl
        have HKI := Lib.hid hkind
        obtain ⟨m0, m1, m2, m3, m4, m5, m6, m7, m8, m9⟩ := n
        unfold ndv ndc at G1
        simp only at G1
        clear hgv hlk hn hkind
        go_wp2_with fail
        refine G1.out.mono ?_
        rintro e w2 ⟨rfl, h2⟩
        have B2 := Lib.hid (thenB B1.out h2)
        have d0 := (Blk.new w2 35 #[.int .u8 m0, .int .i64 m1, .int .i64 m2, .int .i64 m3, .int .i64 m4, .int .i64 m5, .string (bs m6), .string (bs m7), .int .i64 m8, .int .i64 m9]).cell 0
        simp only [List.getElem?_toArray, List.getElem?_cons_zero] at d0
        clear h2
        by_cases hk : m0 = 50
        · subst hk
          go_wp2_with fail
          go_ret
          exact ⟨by rw [soft_pos hi1 hle HKI.out HK.out]; rfl, B2.out.alloc B2.out.size _⟩
        · have hki : ((m0 : Int) == 50) = false := beq_eq_false_iff_ne.2 (by omega)
          have hki2 : ¬ (m0 : Int) = 50 := by omega
          have HNO := Lib.hid (show t.isKind (pre P i) 50 = false by rw [HKI.out]; exact beq_eq_false_iff_ne.2 hk)
          go_wp2_with fail
          go_roundg (P.length - i)
          case measure => have := HG.out; omega
          case rel => exact ⟨i + 1, by go_num, by omega, by omega, Lib.hid (fun j h1 h2 => by
            by_cases e : j = i
            · rw [e]; exact HNO.out
            · exact HK.out j h1 (by omega)), B2.out.alloc B2.out.size _⟩
    · have hlei : ¬ (i : Int) ≤ P.length := by omega
      go_wp2_with fail
      go_ret
      exact ⟨by rw [soft_zero.2 (fun j h1 h2 => HK.out j h1 (by omega))]; rfl, BW.out⟩

end Go.Proofs.YtehooifcgfkngaaDoor
