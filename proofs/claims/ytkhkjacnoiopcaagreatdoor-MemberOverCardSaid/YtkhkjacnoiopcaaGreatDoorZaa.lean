/-
  The wrap of a row that lists variables, the world's shape kept.
-/
import Derived.Handed
import Derived.SizedLaws
import GoSem.Claims
import Derived.Test.YtkhkjacnoiopcaaGreatDoorProg
import GoSem.PinnedTables
import GoSem.Claim
import GoSem.ClaimJoined
import GoSem.ClaimMapViews
import Derived.JoinedTies
import Derived.KernelRfl
import Derived.WalkKit
import Derived.WalkSpells
import Derived.WalkLawsBesides
import Derived.BigQuiet
import Derived.Deep.QuietTactic
import Derived.Lib.Hide
set_option linter.unusedVariables false
set_option linter.unusedSimpArgs false

set_option linter.unusedVariables false
set_option linter.unusedSimpArgs false
namespace Go.Proofs.YtkhkjacnoiopcaaGreatDoor
open Go
variable {H : Type} {enc : TypeId × Value → H}

theorem and_shaped {a : Assume} {C : Checked} {os : Os} {f : FuncId} {fn : Func} {s : ChangeSpec} {conds : List PathCond} {apart fresh handsOn again : Bool} {X : World → Array Value → Prop}
    (hX : ∀ (w w' : World) (args : Array Value), w.heap = w'.heap → X w args → X w' args)
    (own : ownKnob C.prog.godebug = none) (started : os.Started) (noInit : C.prog.inits.idxOf? f = none) (hfn : C.prog.funcs[f]? = some fn)
    (witness : ∃ (w : World) (tape : Tape) (i : Input), w.os = os ∧ (w.forCall tape i).Shaped C.prog ∧ i.vars = [] ∧ Input.okWide C.prog (w.forCall tape i) .any w.heap.size f i ∧
      ((s.pre enc C.prog fn conds apart (w.forCall tape i).memory i.args ∧ X (w.forCall tape i).memory i.args) ∧ sizedMet enc C.prog fn (OpenSpec.ofChange s) apart (w.forCall tape i).memory i.args) ∧ a.holds C.prog (lone (Frame.enter C.prog f i.args .normal) [] (w.forCall tape i)))
    (contract : ∀ (W : World) (base : Nat) (args : Array Value) (ds gs : List (DataW H)) (before : List MemPlace),
      (∀ (j : Nat) t v, fn.params[j]? = some t → args[j]? = some v → Value.okWide C.prog W .any base t v) →
      DataW.Whole enc C.prog fn.params.toList s.vars apart W args.toList ds gs before →
      conds.all (PathCond.test C.prog ⟨fn.params.toList, ds, s.plain.varTypes C.prog, gs⟩) = true →
      (DataW.weightsEach C.prog (fn.params.toList ++ s.plain.varTypes C.prog) (ds ++ gs)).all (· ≤ reachBytes) = true → X W args → W.ShapedOpen C.prog →
      a.holds C.prog (lone (Frame.enter C.prog f args .normal) [] W) →
      Calls C.prog f args W fun e W' => ∃ v, e = .returned v ∧ s.post enc C.prog fn apart fresh handsOn again W args v W') :
    ReturnsInHanded a C os f .any (fun w args => (s.pre enc C.prog fn conds apart w args ∧ X w args) ∧ sizedMet enc C.prog fn (OpenSpec.ofChange s) apart w args) (s.post enc C.prog fn apart fresh handsOn again) := by
  refine returnsInHanded_of_calls own started noInit witness ?_
  intro w tape i _ hsh _ hok hpre hholds
  obtain ⟨_, _, _, fn', hfn', _, _, _, _, hval⟩ := hok
  obtain rfl : fn' = fn := Option.some.inj (hfn'.symm.trans hfn)
  obtain ⟨⟨⟨ds, gs, before, hw, hc⟩, hx⟩, hz⟩ := hpre
  have hw2 := DataW.Whole.of_heap (w' := w.forCall tape i) (by rfl) hw
  refine (contract (w.forCall tape i) w.heap.size i.args ds gs before hval hw2 hc (hz.weights hw) (hX _ _ _ (by rfl) hx) hsh hholds).mono fun e W' ⟨v, he, hp⟩ => ?_
  subst he
  exact ChangeSpec.post_blind hp

end Go.Proofs.YtkhkjacnoiopcaaGreatDoor

namespace Num

/-- the greatest octal number of a field -/
def most (w : Nat) : Nat := 8 ^ (w - 1) - 1

theorem pow_le (k : Nat) (h : k ≤ 19) : 8 ^ k ≤ 144115188075855872 := by
  have : (8 : Nat) ^ k ≤ 8 ^ 19 := Nat.pow_le_pow_right (by omega) h
  omega
theorem pow_pos (k : Nat) : 1 ≤ 8 ^ k := Nat.pos_of_ne_zero (by simp)

/-- digit j of a field of w bytes -/
def dig (n w j : Nat) : Nat := if j + 1 = w then 0 else 48 + n / 8 ^ (w - 2 - j) % 8
def octal (n w : Nat) : List UInt8 := (List.range w).map fun j => (dig n w j).toUInt8

theorem dig_lt (n w j : Nat) : dig n w j < 256 := by unfold dig; split <;> omega

end Num

set_option linter.unusedVariables false
set_option linter.unusedSimpArgs false
namespace Num
open Go

def digs (n : Nat) : Nat → List UInt8
  | 0 => []
  | k + 1 => (48 + n / 8 ^ k % 8).toUInt8 :: digs n k

theorem digs_get (n k : Nat) : digs n k = (List.range k).map fun j => (48 + n / 8 ^ (k - 1 - j) % 8).toUInt8 := by
  induction k with
  | zero => rfl
  | succ k ih =>
    rw [digs, ih, List.range_succ_eq_map, List.map_cons, List.map_map]
    refine congr (congrArg List.cons (by rw [show k + 1 - 1 - 0 = k by omega])) (List.map_congr_left fun j hj => ?_)
    have hj : j < k := by simpa using hj
    simp only [Function.comp_apply]
    rw [show k + 1 - 1 - (j + 1) = k - 1 - j by omega]

theorem octal_digs (n w : Nat) (h : 1 ≤ w) : octal n w = digs n (w - 1) ++ [0] := by
  obtain ⟨k, rfl⟩ : ∃ k, w = k + 1 := ⟨w - 1, by omega⟩
  unfold octal
  rw [List.range_succ, List.map_append, show k + 1 - 1 = k by omega, digs_get]
  refine congr (congrArg HAppend.hAppend (List.map_congr_left fun j hj => ?_)) ?_
  · have hj : j < k := by simpa using hj
    unfold dig
    rw [if_neg (by omega), show k + 1 - 2 - j = k - 1 - j by omega]
  · simp [dig]

theorem digit_toNat (x : Nat) : ((48 + x % 8).toUInt8).toNat = 48 + x % 8 := by
  simp [UInt8.toNat_ofNat']; omega

theorem lt_pow {n w : Nat} (hw : 2 ≤ w) (h : n ≤ most w) : n < 8 ^ (w - 1) := by
  have := pow_pos (w - 1)
  unfold most at h; omega

end Num

set_option linter.unusedVariables false
set_option linter.unusedSimpArgs false
namespace Bk

/-- how many bytes are missing up to the end of a block -/
def pad (n : Nat) : Nat := (512 - n % 512) % 512
theorem pad_lt (n : Nat) : pad n < 512 := Nat.mod_lt _ (by decide)
def fill (l : List UInt8) : List UInt8 := l ++ List.replicate (pad l.length) 0
theorem fill_len (l : List UInt8) : (fill l).length = l.length + pad l.length := by simp [fill]
/-- a byte with a sign -/
def i8 (c : UInt8) : Int := if c.toNat < 128 then (c.toNat : Int) else (c.toNat : Int) - 256
/-- what byte i counts -/
def val (sg : Bool) (i : Nat) (c : UInt8) : Int := if 148 ≤ i ∧ i < 156 then 32 else if sg then i8 c else (c.toNat : Int)
def sumFrom (sg : Bool) : Nat → List UInt8 → Int
  | _, [] => 0
  | i, c :: l => val sg i c + sumFrom sg (i + 1) l
def sum (sg : Bool) (l : List UInt8) : Int := sumFrom sg 0 l

theorem u8_lt (c : UInt8) : c.toNat < 256 := c.toNat_lt
theorem val_lo (i : Nat) (c : UInt8) : 0 ≤ val false i c ∧ val false i c ≤ 255 := by
  have := u8_lt c
  unfold val; split <;> simp <;> omega
theorem sum_lo (l : List UInt8) : ∀ i, 0 ≤ sumFrom false i l ∧ sumFrom false i l ≤ 255 * l.length := by
  induction l with
  | nil => intro i; simp [sumFrom]
  | cons c l ih =>
    intro i
    have := ih (i + 1)
    have := val_lo i c
    simp only [sumFrom, List.length_cons]
    omega
theorem sum_append (sg : Bool) (a b : List UInt8) : ∀ i, sumFrom sg i (a ++ b) = sumFrom sg i a + sumFrom sg (i + a.length) b := by
  induction a with
  | nil => intro i; simp [sumFrom]
  | cons c a ih =>
    intro i
    simp only [List.cons_append, sumFrom, List.length_cons]
    rw [ih (i + 1), show i + 1 + a.length = i + (a.length + 1) by omega]
    omega
theorem sum_mid (sg : Bool) (l : List UInt8) : ∀ i, 148 ≤ i → i + l.length ≤ 156 → sumFrom sg i l = 32 * l.length := by
  induction l with
  | nil => intro i _ _; simp [sumFrom]
  | cons c l ih =>
    intro i h1 h2
    simp only [List.length_cons] at h2 ⊢
    have := ih (i + 1) (by omega) (by omega)
    simp only [sumFrom, val]
    rw [if_pos (by omega), this]; omega

/-- A sum is that of what is around the field of the sum. -/
theorem sum_parts (sg : Bool) (l : List UInt8) (h : l.length = 512) : sum sg l = sumFrom sg 0 (l.take 148) + 256 + sumFrom sg 156 (l.drop 156) := by
  have e : l = l.take 148 ++ ((l.drop 148).take 8 ++ l.drop 156) := by
    have : l.drop 156 = (l.drop 148).drop 8 := by rw [List.drop_drop]
    rw [this, List.take_append_drop, List.take_append_drop]
  have e2 : sum sg l = sum sg (l.take 148 ++ ((l.drop 148).take 8 ++ l.drop 156)) := congrArg (sum sg) e
  rw [e2]
  unfold sum
  rw [sum_append, sum_append]
  have h1 : (l.take 148).length = 148 := by simp; omega
  have h2 : ((l.drop 148).take 8).length = 8 := by simp; omega
  rw [h1, h2, sum_mid sg _ 148 (by omega) (by rw [h2]; omega), h2]
  simp only [Nat.zero_add, Nat.reduceAdd]
  omega

def sld (l : List UInt8) : List UInt8 := l.take 148 ++ Num.octal (sum false l).toNat 7 ++ [32] ++ l.drop 156
theorem octal_len (n w : Nat) : (Num.octal n w).length = w := by simp [Num.octal]
theorem seal_len (l : List UInt8) (h : l.length = 512) : (sld l).length = 512 := by
  unfold sld; simp [octal_len]; omega
theorem seal_take (l : List UInt8) (h : l.length = 512) : (sld l).take 148 = l.take 148 := by
  unfold sld
  rw [List.append_assoc, List.append_assoc, List.take_append_of_le_length (by simp; omega)]
  exact List.take_of_length_le (by simp; omega)
theorem seal_drop (l : List UInt8) (h : l.length = 512) : (sld l).drop 156 = l.drop 156 := by
  unfold sld
  rw [List.drop_append_of_le_length (by simp [octal_len]; omega)]
  rw [List.drop_of_length_le (by simp [octal_len]; omega)]
  rfl
theorem seal_field (l : List UInt8) (h : l.length = 512) : ((sld l).drop 148).take 8 = Num.octal (sum false l).toNat 7 ++ [32] := by
  unfold sld
  rw [List.append_assoc, List.append_assoc, List.drop_append_of_le_length (by simp; omega), List.drop_of_length_le (by simp; omega), List.nil_append, ← List.append_assoc,
    List.take_append_of_le_length (by simp [octal_len]), List.take_of_length_le (by simp [octal_len])]
theorem seal_sum (sg : Bool) (l : List UInt8) (h : l.length = 512) : sum sg (sld l) = sum sg l := by
  rw [sum_parts sg l h, sum_parts sg _ (seal_len l h), seal_take l h, seal_drop l h]
theorem sum_small (l : List UInt8) (h : l.length = 512) : (sum false l).toNat ≤ Num.most 7 ∧ ((sum false l).toNat : Int) = sum false l := by
  have := sum_lo l 0
  unfold sum
  have e : Num.most 7 = 262143 := by decide
  rw [e]; omega

end Bk

set_option linter.unusedVariables false
set_option linter.unusedSimpArgs false
namespace Go.Proofs.YtkhkjacnoiopcaaGreatDoor
open Go.RowKit

/-- Block g is just the cells cs of element type t, none frozen. -/
def Blk (w : World) (g : Nat) (t : TypeId) (cs : Array Value) : Prop := w.heap[g]? = some (.cells cs t (0, 0))

section
variable {w w' : World} {g : Nat} {t : TypeId} {cs : Array Value}
theorem Blk.lt (h : Blk w g t cs) : g < w.heap.size := by
  rcases Nat.lt_or_ge g w.heap.size with hlt | hge
  · exact hlt
  · unfold Blk at h; rw [Array.getElem?_eq_none hge] at h; cases h
theorem Blk.cell (h : Blk w g t cs) (i : Nat) : w.cell? ⟨g, i, none⟩ = cs[i]? := cell_of_row w g i cs t (0, 0) h
theorem Blk.frozen (h : Blk w g t cs) (i : Nat) : w.frozen? ⟨g, i, none⟩ = false := by
  unfold Blk at h
  simp [World.frozen?, h]
theorem Blk.new (w : World) (t : TypeId) (cs : Array Value) : Blk (w.alloc (.cells cs t)) w.heap.size t cs := heap_alloc_new w _
theorem Blk.drew (h : Blk w g t cs) : Blk w.drew g t cs := h
theorem Blk.drewN (h : Blk w g t cs) (n : Nat) : Blk (w.drewN n) g t cs := h
theorem Blk.alloc (h : Blk w g t cs) (o : Obj) : Blk (w.alloc o) g t cs := (Below.heap_alloc w o g h.lt).trans h
theorem Blk.set_ (h : Blk w g t cs) (i : Nat) (u : Value) : Blk (w.setCell ⟨g, i, none⟩ u) g t (cs.setIfInBounds i u) := by
  unfold Blk at h ⊢
  simp [World.setCell, Array.getElem?_modify, h]
theorem Blk.far (h : Blk w g t cs) {p : Addr} (hp : g ≠ p.block) (u : Value) : Blk (w.setCell p u) g t cs := (Below.heap_setCell w p u g hp).trans h
theorem Blk.below {B : Nat} (h : Blk w g t cs) (hb : Below B w w') (hg : g < B) : Blk w' g t cs := (hb.block g hg).trans h
theorem Blk.grown {row : Option Nat} (h : Blk w g t cs) (hb : w.grownBy w' row) (hg : some g ≠ row) : Blk w' g t cs := (hb.block g h.lt hg).trans h
end

theorem only_refl (w : World) (row : Option Nat) : w.grownBy w row := World.grownBy.refl w row
theorem only_of_below {a w : World} (h : Below a.heap.size a w) (row : Option Nat) : a.grownBy w row := ⟨h.os, h.tape, h.output, h.size, fun i hi _ => h.block i hi⟩
theorem below_drewN {B : Nat} {a w : World} (h : Below B a w) (n : Nat) : Below B a (w.drewN n) := ⟨h.os, h.tape, h.output, h.size, h.block⟩

theorem Blk.row {w : World} {g : Nat} {t : TypeId} {cs : Array Value} (h : Blk w g t cs) (cs' : Array Value) : Blk (w.setRow g cs') g t cs' := setRow_heap w g cs cs' t _ h
theorem thenB {a b c : World} (h : Below a.heap.size a b) (k : Below b.heap.size b c) : Below a.heap.size a c := h.trans (k.mono h.size)

/-! Bytes as the walk writes them. -/
theorem u8_ne {c d : UInt8} (h : c ≠ d) : ((c.toNat : Int) == (d.toNat : Int)) = false := by
  rw [beq_eq_false_iff_ne]; intro e; exact h (UInt8.toNat_inj.1 (Int.ofNat_inj.1 e))
theorem u8_eq {c d : UInt8} (h : c = d) : ((c.toNat : Int) == (d.toNat : Int)) = true := by rw [h]; simp
theorem u8_lt (c : UInt8) : (c.toNat : Int) < 256 := by have := c.toNat_lt; omega
theorem u8_nat_lt (c : UInt8) : c.toNat < 256 := c.toNat_lt

end Go.Proofs.YtkhkjacnoiopcaaGreatDoor
