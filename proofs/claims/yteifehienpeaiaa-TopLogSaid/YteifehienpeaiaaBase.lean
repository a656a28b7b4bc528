/-
  What all proofs of this seat share, over whatever program: a world of which only some blocks have turned ('Only'); blocks that are known whole ('heap[b]? = some ..'); the greater and the smaller of two numbers.
  No conditions.
-/
import Derived.WalkKit
import Derived.WalkLawsBesides
import Derived.WalkSpells
import Derived.Below
import Derived.KernelRfl
import Derived.Deep.Draws
import Derived.Deep.QuietTactic
import Derived.BigQuiet
import Derived.BigRegion
import Derived.Outline
import Derived.Lib.Hide
namespace Go.Proofs.Yteifehienpeaiaa
open Go.RowKit

/-- Of the blocks of w only those of S may have turned; new ones may have come. -/
structure Only (S : Nat → Prop) (w w' : World) : Prop where
  os : w'.os = w.os
  tape : w'.tape = w.tape
  output : w'.output = w.output
  size : w.heap.size ≤ w'.heap.size
  block : ∀ k, k < w.heap.size → ¬ S k → w'.heap[k]? = w.heap[k]?

theorem Only.refl (S : Nat → Prop) (w : World) : Only S w w := ⟨rfl, rfl, rfl, Nat.le_refl _, fun _ _ _ => rfl⟩

theorem Only.trans {S : Nat → Prop} {a b c : World} (h : Only S a b) (k : Only S b c) : Only S a c :=
  ⟨k.os.trans h.os, k.tape.trans h.tape, k.output.trans h.output, Nat.le_trans h.size k.size,
   fun i hi hn => (k.block i (Nat.lt_of_lt_of_le hi h.size) hn).trans (h.block i hi hn)⟩

theorem Only.mono {S S' : Nat → Prop} {a b : World} (h : Only S a b) (hs : ∀ k, k < a.heap.size → S k → S' k) : Only S' a b :=
  ⟨h.os, h.tape, h.output, h.size, fun i hi hn => h.block i hi (fun e => hn (hs i hi e))⟩

/-- A further step that may turn what is new besides. -/
theorem Only.then {S S' : Nat → Prop} {a b c : World} (h : Only S a b) (k : Only S' b c) (hs : ∀ i, i < a.heap.size → S' i → S i) : Only S a c :=
  ⟨k.os.trans h.os, k.tape.trans h.tape, k.output.trans h.output, Nat.le_trans h.size k.size,
   fun i hi hn => (k.block i (Nat.lt_of_lt_of_le hi h.size) (fun e => hn (hs i hi e))).trans (h.block i hi hn)⟩

theorem Only.drew {S : Nat → Prop} {a b : World} (h : Only S a b) : Only S a b.drew := ⟨h.os, h.tape, h.output, h.size, h.block⟩
theorem Only.drewN {S : Nat → Prop} {a b : World} (h : Only S a b) (n : Nat) : Only S a (b.drewN n) := ⟨h.os, h.tape, h.output, h.size, h.block⟩

theorem Only.alloc {S : Nat → Prop} {a b : World} (h : Only S a b) (o : Obj) : Only S a (b.alloc o) :=
  h.then (S' := fun _ => False) ⟨rfl, rfl, rfl, by simp, fun k hk _ => Below.heap_alloc _ _ _ hk⟩ (fun _ _ e => e.elim)

theorem Only.setCell {S : Nat → Prop} {a b : World} (h : Only S a b) (p : Addr) (u : Value) (hp : p.block < a.heap.size → S p.block) : Only S a (b.setCell p u) :=
  h.then (S' := fun k => k = p.block) ⟨rfl, rfl, rfl, by simp [World.setCell], fun k _ hn => Below.heap_setCell _ _ _ _ hn⟩ (fun i hi e => e ▸ hp (e ▸ hi))

theorem Only.below {S : Nat → Prop} {w w' : World} {B : Nat} (h : Only S w w') (hB : B ≤ w.heap.size) (hs : ∀ k, k < B → ¬ S k) : Below B w w' :=
  ⟨h.os, h.tape, h.output, h.size, fun k hk => h.block k (Nat.lt_of_lt_of_le hk hB) (hs k hk)⟩

theorem Only.of_below {w w' : World} (h : Below w.heap.size w w') : Only (fun _ => False) w w' := ⟨h.os, h.tape, h.output, h.size, fun k hk _ => h.block k hk⟩

theorem Only.of_grown {w w' : World} {row : Option Nat} (h : w.grownBy w' row) : Only (fun k => some k = row) w w' := ⟨h.os, h.tape, h.output, h.size, fun k hk hn => h.block k hk hn⟩

theorem heap_lt {w : World} {b : Nat} {o : Obj} (h : w.heap[b]? = some o) : b < w.heap.size := by
  rcases Nat.lt_or_ge b w.heap.size with h' | h'
  · exact h'
  · simp [Array.getElem?_eq_none h'] at h

theorem Only.at {S : Nat → Prop} {w w' : World} {b : Nat} {o : Obj} (h : Only S w w') (hb : w.heap[b]? = some o) (hn : ¬ S b) : w'.heap[b]? = some o :=
  (h.block b (heap_lt hb) hn).trans hb

theorem Only.undrew {S : Nat → Prop} {w w' : World} (h : Only S w.drew w') : Only S w w' := ⟨h.os, h.tape, h.output, h.size, h.block⟩
theorem Only.undrewN {S : Nat → Prop} {w w' : World} {n : Nat} (h : Only S (w.drewN n) w') : Only S w w' := ⟨h.os, h.tape, h.output, h.size, h.block⟩

/-- A step behind a draw, or behind none. -/
theorem Only.step {S S' : Nat → Prop} {a b b' c : World} (h : Only S a b) (k : Only S' b' c) (hb : b'.os = b.os ∧ b'.tape = b.tape ∧ b'.output = b.output ∧ b'.heap = b.heap) (hs : ∀ i, i < a.heap.size → S' i → S i) : Only S a c := by
  obtain ⟨h1, h2, h3, h4⟩ := hb
  refine ⟨k.os.trans (h1.trans h.os), k.tape.trans (h2.trans h.tape), k.output.trans (h3.trans h.output), Nat.le_trans h.size (h4 ▸ k.size), fun i hi hn => ?_⟩
  have := k.block i (by rw [h4]; exact Nat.lt_of_lt_of_le hi h.size) (fun e => hn (hs i hi e))
  rw [this, h4]
  exact h.block i hi hn

theorem cell_only {S : Nat → Prop} {w w' : World} {p : Addr} {v : Value} (h : Only S w w') (hn : ¬ S p.block) (hc : w.cell? p = some v) : w'.cell? p = some v := by
  rw [World.cell?_of_block (w := w) (w' := w') (a := p) (h.block _ (World.block_lt_of_cell? w p hc) hn)]; exact hc

section
variable {w : World} {b : Nat} {cs : Array Value} {T : TypeId} {fz : Nat × Nat}
theorem blk_cell (h : w.heap[b]? = some (.cells cs T fz)) (i : Nat) : w.cell? ⟨b, i, none⟩ = cs[i]? := by simp [World.cell?, h]
theorem blk_free (h : w.heap[b]? = some (.cells cs T (0, 0))) (i : Nat) : w.frozen? ⟨b, i, none⟩ = false := by simp [World.frozen?, h]
theorem blk_set (h : w.heap[b]? = some (.cells cs T fz)) (i : Nat) (v : Value) : (w.setCell ⟨b, i, none⟩ v).heap[b]? = some (.cells (cs.setIfInBounds i v) T fz) := by
  simp [World.setCell, Array.getElem?_modify, h]
theorem blk_set_other {o : Obj} (h : w.heap[b]? = some o) (p : Addr) (v : Value) (hne : p.block ≠ b) : (w.setCell p v).heap[b]? = some o := by
  rw [Below.heap_setCell _ _ _ _ (fun e => hne e.symm)]; exact h
theorem blk_alloc {o : Obj} (h : w.heap[b]? = some o) (o' : Obj) : (w.alloc o').heap[b]? = some o := (Below.heap_alloc _ _ _ (heap_lt h)).trans h
theorem blk_new (w : World) (o : Obj) : (w.alloc o).heap[w.heap.size]? = some o := by
  show (w.heap.push o)[w.heap.size]? = some o
  simp
theorem blk_new2 (w : World) (o o' : Obj) : ((w.alloc o).alloc o').heap[w.heap.size + 1]? = some o' := by
  have := blk_new (w.alloc o) o'
  rwa [World.size_alloc] at this
end

/-- A cell of a block, stored. -/
def setAt (i : Nat) (v : Value) : Obj → Obj
  | .cells c e f => .cells (c.setIfInBounds i v) e f
  | o => o
theorem setAt_cells (i : Nat) (v : Value) (c : List Value) (e : TypeId) (f : Nat × Nat) : setAt i v (.cells c.toArray e f) = .cells (c.set i v).toArray e f := by simp [setAt]
theorem heap_set (w : World) (g i : Nat) (v : Value) : (w.setCell ⟨g, i, none⟩ v).heap[g]? = (w.heap[g]?).map (setAt i v) := by
  simp only [World.setCell, Array.getElem?_modify, if_true]
  congr 1
theorem heap_drew (w : World) : w.drew.heap = w.heap := rfl

/-- The greater, the smaller of two numbers, as Go's max and min tell it. -/
def mx (a b : Int) : Int := if a < b then b else a
def mn (a b : Int) : Int := if b < a then b else a
theorem max_ii (ats : Array TypeId) (ty : TypeId) (k k' : IntKind) (a b : Int) : Builtin.max_ ats ty #[.int k a, .int k' b] = pure (.int k (mx a b)) := by
  simp only [Builtin.max_, List.foldlM_cons, List.foldlM_nil, Builtin.max2, mx, gt_iff_lt]; rfl
theorem min_ii (ats : Array TypeId) (ty : TypeId) (k k' : IntKind) (a b : Int) : Builtin.min_ ats ty #[.int k a, .int k' b] = pure (.int k (mn a b)) := by
  simp only [Builtin.min_, List.foldlM_cons, List.foldlM_nil, Builtin.min2, mn]; rfl
theorem max_iii (ats : Array TypeId) (ty : TypeId) (k k' k'' : IntKind) (a b c : Int) : Builtin.max_ ats ty #[.int k a, .int k' b, .int k'' c] = pure (.int k (mx (mx a b) c)) := by
  simp only [Builtin.max_, List.foldlM_cons, List.foldlM_nil, Builtin.max2, mx, gt_iff_lt]; rfl
theorem min_iii (ats : Array TypeId) (ty : TypeId) (k k' k'' : IntKind) (a b c : Int) : Builtin.min_ ats ty #[.int k a, .int k' b, .int k'' c] = pure (.int k (mn (mn a b) c)) := by
  simp only [Builtin.min_, List.foldlM_cons, List.foldlM_nil, Builtin.min2, mn]; rfl
theorem min_iiii (ats : Array TypeId) (ty : TypeId) (k k' k'' k3 : IntKind) (a b c d : Int) : Builtin.min_ ats ty #[.int k a, .int k' b, .int k'' c, .int k3 d] = pure (.int k (mn (mn (mn a b) c) d)) := by
  simp only [Builtin.min_, List.foldlM_cons, List.foldlM_nil, Builtin.min2, mn]; rfl
theorem mx_eq (a b : Int) : mx a b = max a b := by unfold mx; omega
theorem mn_eq (a b : Int) : mn a b = min a b := by unfold mn; omega

/-- What sternpostbook.Among tells. -/
theorem among_eq (x n : Int) (hn : 0 < n) : ((x.tmod n) + n).tmod n = x % n := by
  by_cases hx : 0 ≤ x
  · rw [Int.tmod_eq_emod_of_nonneg hx]
    have h2 : 0 ≤ x % n := Int.emod_nonneg _ (by omega)
    rw [Int.tmod_eq_emod_of_nonneg (by omega), Int.add_emod_right, Int.emod_emod_of_dvd _ (Int.dvd_refl n)]
  · have h2 : -n < x.tmod n := by
      have := Int.lt_tmod_of_pos x hn
      omega
    rw [Int.tmod_eq_emod_of_nonneg (by omega), Int.add_emod_right, ← Int.emod_emod_of_dvd x (Int.dvd_refl n)]
    rw [Int.tmod_eq_emod]
    split
    · simp
    · rw [show ((n.natAbs : Nat) : Int) = n from by omega]
      simp

/-- A mask of so many bits, on a whole number of whatever sign. -/
theorem and_mask (x : Int) (i : Nat) (hi : i < 63) : bits .and .i64 x (2 ^ i - 1) = x % 2 ^ i := by
  have hpos : 0 < 2 ^ i := Nat.two_pow_pos i
  have hlt : 2 ^ i < 2 ^ 63 := Nat.pow_lt_pow_right (by decide) hi
  have hc : ((2 : Int) ^ i - 1) = ((2 ^ i - 1 : Nat) : Int) := by rw [Int.natCast_sub hpos]; simp
  have hm : (2 ^ i - 1) % 2 ^ IntKind.i64.bits = 2 ^ i - 1 := Nat.mod_eq_of_lt (by show _ < 2 ^ 64; omega)
  simp only [bits, hc, BitVec.ofInt_natCast, BitVec.toNat_and, BitVec.toNat_ofNat, BitVec.toNat_ofInt, hm, Nat.and_two_pow_sub_one_eq_mod]
  have e : (((x % ((2 ^ IntKind.i64.bits : Nat) : Int)).toNat % 2 ^ i : Nat) : Int) = x % 2 ^ i := by
    have h0 : 0 ≤ x % ((2 ^ IntKind.i64.bits : Nat) : Int) := Int.emod_nonneg _ (by decide)
    rw [Int.natCast_emod, Int.toNat_of_nonneg h0]
    have hd : ((2 ^ i : Nat) : Int) ∣ ((2 ^ IntKind.i64.bits : Nat) : Int) := by
      exact_mod_cast Nat.pow_dvd_pow 2 (show i ≤ 64 by omega)
    rw [Int.emod_emod_of_dvd _ hd]
    simp
  rw [e]
  have h1 : 0 ≤ x % 2 ^ i := Int.emod_nonneg _ (by have : (0 : Int) < 2 ^ i := by exact_mod_cast hpos
                                                   omega)
  have h2 : x % 2 ^ i < 2 ^ i := Int.emod_lt_of_pos _ (by exact_mod_cast hpos)
  have h3 : (2 : Int) ^ i < 2 ^ 63 := by exact_mod_cast hlt
  rw [IntKind.wrap_i64]
  omega
theorem and_mask32 (x : Int) : bits .and .i64 x 4294967295 = x % 4294967296 := and_mask x 32 (by decide)

theorem wf_bounds {a : Int} (h : (Lit.int .i64 a).wf = true) : -9223372036854775808 ≤ a ∧ a ≤ 9223372036854775807 := by
  simpa [Lit.wf, IntKind.min, IntKind.max, IntKind.bits, IntKind.signed] using h

end Go.Proofs.Yteifehienpeaiaa
