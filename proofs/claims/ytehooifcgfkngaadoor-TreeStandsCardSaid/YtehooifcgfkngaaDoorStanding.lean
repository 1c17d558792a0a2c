/-
  standing: whether each name of a tree lies in a directory and is valid; whether the names are in order.
-/
import Derived.Test.YtehooifcgfkngaaDoorSorted
import Derived.BigRegion
namespace Go.Proofs.YtehooifcgfkngaaDoor
open Go.RowKit Go.Maps Tre

theorem rightN_len {n : Nd} (h : rightN n = true) : n.kind ≤ 255 ∧ n.link.length ≤ 120 ∧ n.data.length ≤ 4000 := by
  unfold rightN inR at h
  simp only [Bool.and_eq_true, decide_eq_true_eq] at h
  obtain ⟨⟨⟨⟨⟨h0, _⟩, _⟩, ⟨_, hl⟩, _⟩, _⟩, hd⟩ := h
  refine ⟨by omega, hl, ?_⟩
  split at hd
  · simpa using hd
  · have : n.data = [] := by simpa using hd
    rw [this]; exact Nat.zero_le _

set_option maxRecDepth 100000 in
set_option maxHeartbeats 8000000 in
theorem standing_any {w : World} {g : Nat} {on of : Option Nat} {t : T} (h : TreeAt w g on of t) (ht : Std t) (hx : t.nx ≤ 100000) (hm : ML w) :
    Calls Tryd.prog 20 #[.pointer (some ⟨g, 0, none⟩)] w fun e w' => e = .returned (.bool true) ∧ Below w.heap.size w w' := by
  have NM := Lib.hid (fun w' (hb : Below w.heap.size w w') => names_any (h.below hb) ht (hm.below hb))
  have HM := Lib.hid hm
  have HT := Lib.hid h
  have HS := Lib.hid ht
  have hln : t.names.length ≤ 60 := by rw [names_len]; exact ht.cn
  have HNAME := Lib.hid (fun (s : Pth.Bs) (h : s ∈ t.names) => ht.name h)
  have HDIR := Lib.hid (fun (s : Pth.Bs) (h : s ∈ t.names) => ht.dir h)
  have hnn : ∀ s k, Tre.look t.ents s = some k → k ≤ 1000000 := fun s k h => by have := (ht.short h).2; omega
  have HNN := Lib.hid hnn
  have SO := Lib.hid (fun w' B v (hv : HasS w' B v t.names) (hb : Below w.heap.size w w') => sorted_names hv hln (hm.below hb) (fun s hs => by obtain ⟨k, _, hr, _⟩ := ht.name hs; have := (right_len hr).1; omega) (names_sorted t))
  clear h ht hm hnn
  go_enter Tryd.func20, Tryd.ntmps20
  go_wp2_with fail
  refine (NM.out _ (Below.refl _ _)).mono ?_
  rintro e w3 ⟨v3, rfl, hv, h3⟩
  have B3 := Lib.hid h3
  have hs := hv.has
  clear hv h3
  rcases hs.ways with ⟨A, c3, rfl, h0⟩ | ⟨b, off, c3, rfl, _, _, hb3, hpos, hrow⟩
  · clear hs h0
    go_wp2_with fail
    refine wp_loop_rounds 1 ?_
    rw [rounds_succ]
    go_wp2_with fail
    refine (NM.out _ B3.out).mono ?_
    rintro e w4 ⟨v4, rfl, hv, h4⟩
    have B4 := Lib.hid (thenB B3.out h4)
    have V4 := Lib.hid hv.has
    clear hv h4
    go_wp2_with fail
    refine (SO.out _ _ _ V4.out B4.out).mono ?_
    rintro e w5 ⟨rfl, h5⟩
    go_wp2_with fail
    go_ret
    exact ⟨rfl, thenB B4.out h5⟩
  have HR := Lib.hid hrow
  obtain ⟨L, hL⟩ : ∃ L, L = t.names := ⟨_, rfl⟩
  rw [← hL] at HR HNAME HDIR hln hpos
  have hln2 : t.names.length = L.length := by rw [hL]
  rw [hln2]
  have hli : (L.length : Int) ≤ 60 := by omega
  clear hs hrow hL hln2
  go_wp2_with fail
  go_loopg [14] (L.length) (fun gg iv wr => ∃ k : Nat, iv = .int .i64 k ∧ k ≤ L.length ∧ k + gg = L.length ∧ Below w3.heap.size w3 wr)
  case atStart => exact ⟨0, rfl, Nat.zero_le _, by omega, Below.refl _ _⟩
  case round =>
    obtain ⟨k, rfl, hk, hgg, hbw⟩ := hrel
    have HW := Lib.hid hbw
    have BW := Lib.hid (thenB B3.out hbw)
    have HG := Lib.hid hgg
    clear hgg hbw
    by_cases hlt : k < L.length
    · have c0 : wr.cell? ⟨b, off + k, none⟩ = some (.string (bs L[k])) := (HW.out.cell (p := ⟨b, off + k, none⟩) hb3).trans (HR.out k hlt)
      have hmem : L[k] ∈ L := List.getElem_mem hlt
      obtain ⟨s, hs⟩ : ∃ s, s = L[k] := ⟨_, rfl⟩
      rw [← hs] at c0 hmem
      obtain ⟨ks, hks, hsr, hsn, hsl⟩ := HNAME.out s hmem
      have hdr := HDIR.out s hmem
      have hslen := (right_len hsr).1
      have hl3 := rightN_len hsn
      have GB := Lib.hid (fun w' (hb : Below wr.heap.size wr w') => get_any ((HT.out.below BW.out).below hb) (bs s) (fun k hk => HNN.out _ k hk) (by rw [bs_size]; omega))
      have hgv : getV t (bs s).data.toList = .tuple #[ndv (t.file ks), .nilIface] := getV_of (by rw [bs_list]; exact hks)
      rw [hgv] at GB
      have RT := Lib.hid (fun w' (hb : Below wr.heap.size wr w') => right_any (bs s) w' (by rw [bs_size]; omega) ((HM.out.below BW.out).below hb))
      rw [bs_list, hsr] at RT
      have LK := Lib.hid (fun w' (hb : Below wr.heap.size wr w') => links_any ((HT.out.below BW.out).below hb) HS.out (bs s) (by rw [bs_size]; omega))
      rw [bs_list] at LK
      obtain ⟨hcl, hn0⟩ := right_cl hsr
      have hj := right_join hsr
      have UP := Lib.hid (fun w' => up_parts hcl hn0 (by rw [hj]; omega) w')
      rw [hj] at UP
      obtain ⟨D, hD⟩ : ∃ D, D = Pth.join (Pth.parts s).dropLast := ⟨_, rfl⟩
      rw [← hD] at UP hdr
      have hDl : D.length ≤ 120 := by
        rw [hD]
        have := pre_length (Pth.parts s) ((Pth.parts s).length - 1)
        unfold pre at this
        rw [← List.dropLast_eq_take, hj] at this
        omega
      have TR := Lib.hid (fun w' => treeRight_any (t.file ks) hl3.1 (by omega) (by omega) w')
      rw [hsn] at TR
      obtain ⟨n, hn⟩ : ∃ n, n = t.file ks := ⟨_, rfl⟩
      rw [← hn] at GB TR
      obtain ⟨m0, m1, m2, m3, m4, m5, m6, m7, m8, m9⟩ := n
      unfold ndv ndc at GB TR
      simp only at GB TR
      obtain ⟨q, hq⟩ : ∃ q, q = t.links s := ⟨_, rfl⟩
      rw [← hq] at LK hsl
      have hqi : ¬ (q : Int) < 1 := by omega
      obtain ⟨z, hz⟩ : ∃ z, z = (Pth.parts s).getLast hn0 := ⟨_, rfl⟩
      rw [← hz] at UP
      clear hs hmem hks hsr hsn hcl hn0 hj hn hq hz hgv hl3 hD
      go_wp2_with fail
      refine (GB.out _ (Below.refl _ _)).mono ?_
      rintro e w4 ⟨rfl, h4⟩
      have B4 := Lib.hid h4
      have BK := Blk.new w4 35 #[.int .u8 m0, .int .i64 m1, .int .i64 m2, .int .i64 m3, .int .i64 m4, .int .i64 m5, .string (bs m6), .string (bs m7), .int .i64 m8, .int .i64 m9]
      have B5 := h4.alloc h4.size (.cells #[.int .u8 m0, .int .i64 m1, .int .i64 m2, .int .i64 m3, .int .i64 m4, .int .i64 m5, .string (bs m6), .string (bs m7), .int .i64 m8, .int .i64 m9] 35)
      have hp5 := BK.lt
      have BK5 := Lib.hid BK
      have BB5 := Lib.hid B5
      have HP5 := Lib.hid hp5
      clear h4 BK B5 hp5
      go_wp2_with fail
      refine (RT.out _ BB5.out).mono ?_
      rintro e w6 ⟨rfl, h6⟩
      have B6 := Lib.hid (thenB BB5.out h6)
      have BK6 := BK5.out.below h6 HP5.out
      have _d0 : w6.cell? ⟨w4.heap.size, 0, none⟩ = some (.int .u8 m0) := BK6.cell 0
      have _d1 : w6.cell? ⟨w4.heap.size, 1, none⟩ = some (.int .i64 m1) := BK6.cell 1
      have _d2 : w6.cell? ⟨w4.heap.size, 2, none⟩ = some (.int .i64 m2) := BK6.cell 2
      have _d3 : w6.cell? ⟨w4.heap.size, 3, none⟩ = some (.int .i64 m3) := BK6.cell 3
      have _d4 : w6.cell? ⟨w4.heap.size, 4, none⟩ = some (.int .i64 m4) := BK6.cell 4
      have _d5 : w6.cell? ⟨w4.heap.size, 5, none⟩ = some (.int .i64 m5) := BK6.cell 5
      have _d6 : w6.cell? ⟨w4.heap.size, 6, none⟩ = some (.string (bs m6)) := BK6.cell 6
      have _d7 : w6.cell? ⟨w4.heap.size, 7, none⟩ = some (.string (bs m7)) := BK6.cell 7
      have _d8 : w6.cell? ⟨w4.heap.size, 8, none⟩ = some (.int .i64 m8) := BK6.cell 8
      have _d9 : w6.cell? ⟨w4.heap.size, 9, none⟩ = some (.int .i64 m9) := BK6.cell 9
      have _dl := BK6.lt
      clear h6 BK6
      go_wp2_with fail
      refine (TR.out _).mono ?_
      rintro e w7 ⟨rfl, h7⟩
      have B7 := Lib.hid (thenB B6.out h7)
      clear h7 _d0 _d1 _d2 _d3 _d4 _d5 _d6 _d7 _d8 _d9 _dl
      go_wp2_with fail
      refine (LK.out _ B7.out).mono ?_
      rintro e w8 ⟨rfl, h8⟩
      have B8 := Lib.hid (thenB B7.out h8)
      clear h8
      go_wp2_with fail
      refine (UP.out _).mono ?_
      rintro e w9 ⟨rfl, h9⟩
      have B9 := Lib.hid (thenB B8.out h9)
      clear h9
      by_cases h0 : D = []
      · have hdn : (bs D).toList = [] := (str_nil D).2 h0
        have hde : (bs D).toList.isEmpty = true := by rw [List.isEmpty_iff]; exact hdn
        clear hdr h0
        go_wp2_with fail
        go_roundg (L.length - (k + 1))
        case measure => have := HG.out; omega
        case rel => exact ⟨k + 1, by go_num, by omega, by omega, thenB HW.out B9.out⟩
      · have hdn : ¬ (bs D).toList = [] := fun e => h0 ((str_nil D).1 e)
        have hde : (bs D).toList.isEmpty = false := by rw [← Bool.not_eq_true, List.isEmpty_iff]; exact hdn
        obtain ⟨kd, hkd, hkk⟩ := hdr h0
        have GD := Lib.hid (fun w' (hb : Below wr.heap.size wr w') => get_any ((HT.out.below BW.out).below hb) (bs D) (fun k hk => HNN.out _ k hk) (by rw [bs_size]; omega))
        have hgv : getV t (bs D).data.toList = .tuple #[ndv (t.file kd), .nilIface] := getV_of (by rw [bs_list]; exact hkd)
        rw [hgv] at GD
        obtain ⟨n, hn⟩ : ∃ n, n = t.file kd := ⟨_, rfl⟩
        rw [← hn] at GD hkk
        obtain ⟨q0, q1, q2, q3, q4, q5, q6, q7, q8, q9⟩ := n
        simp only at hkk
        subst hkk
        unfold ndv ndc at GD
        simp only at GD
        clear hkd hn hgv h0 hdr
        go_wp2_with fail
        refine (GD.out _ B9.out).mono ?_
        rintro e w10 ⟨rfl, h10⟩
        have B10 := Lib.hid (thenB B9.out h10)
        have BK := (Blk.new w10 35 #[.int .u8 53, .int .i64 q1, .int .i64 q2, .int .i64 q3, .int .i64 q4, .int .i64 q5, .string (bs q6), .string (bs q7), .int .i64 q8, .int .i64 q9])
        have e0 := BK.cell 0
        simp only [List.getElem?_toArray, List.getElem?_cons_zero] at e0
        have B11 := Lib.hid (B10.out.alloc B10.out.size (.cells #[.int .u8 53, .int .i64 q1, .int .i64 q2, .int .i64 q3, .int .i64 q4, .int .i64 q5, .string (bs q6), .string (bs q7), .int .i64 q8, .int .i64 q9] 35))
        clear h10 BK
        go_wp2_with fail
        go_roundg (L.length - (k + 1))
        case measure => have := HG.out; omega
        case rel => exact ⟨k + 1, by go_num, by omega, by omega, thenB HW.out B11.out⟩
    · have hke : ¬ (k : Int) < L.length := by omega
      go_wp2_with fail
      refine (NM.out _ BW.out).mono ?_
      rintro e w4 ⟨v4, rfl, hv, h4⟩
      have B4 := Lib.hid (thenB BW.out h4)
      have V4 := Lib.hid hv.has
      clear hv h4
      go_wp2_with fail
      refine (SO.out _ _ _ V4.out B4.out).mono ?_
      rintro e w5 ⟨rfl, h5⟩
      go_wp2_with fail
      go_ret
      exact ⟨rfl, thenB B4.out h5⟩

end Go.Proofs.YtehooifcgfkngaaDoor
