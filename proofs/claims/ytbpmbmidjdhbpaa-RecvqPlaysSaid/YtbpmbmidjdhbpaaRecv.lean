/-
  The contracts of a receive queue but for Put and Apart.
  Conditions: numbers are of the kind int, the queue's own in their bounds.
-/
import Derived.Test.YtbpmbmidjdhbpaaMaps
import Derived.Test.YtbpmbmidjdhbpaaSeqC
import Derived.Test.YtbpmbmidjdhbpaaBytes
import Derived.StillTailTactics
set_option linter.unusedVariables false
set_option linter.unusedSimpArgs false
set_option maxRecDepth 100000
namespace Go.Proofs.Ytbpmbmidjdhbpaa
open Go.RowKit
attribute [local go_sem] max_ii min_ii

/-- A queue's state. -/
structure QS where
  next : Int
  room : Int
  s : ByteArray
  A : List (Int × Nat)

def encA (A : List (Int × Nat)) : List (Int × Value) := A.map fun p => (p.1, .int .u8 (p.2 : Nat))
def QS.cells (q : QS) (m : Nat) : Array Value := #[.int .i64 q.next, .int .i64 q.room, .string q.s, .map (some m)]

structure QAt (w : World) (g m : Nat) (q : QS) : Prop where
  cell : w.heap[g]? = some (.cells (q.cells m) 62 (0, 0))
  amap : MapI w m (encA q.A)

theorem map_cells {w : World} {b b' : Nat} {l : List (Int × Value)} {cs : Array Value} {T : TypeId} {fz : Nat × Nat} (h : MapI w b l) (h' : w.heap[b']? = some (.cells cs T fz)) : b ≠ b' := by
  obtain ⟨es, c, h1, _⟩ := h
  rintro rfl
  rw [h1] at h'
  cases h'

theorem QAt.only {w w' : World} {g m : Nat} {q : QS} {S : Nat → Prop} (h : QAt w g m q) (hk : Only S w w') (hg : ¬ S g) (hm : ¬ S m) : QAt w' g m q := ⟨hk.at h.cell hg, h.amap.only hk hm⟩
theorem QAt.keep {w w' : World} {g m : Nat} {q : QS} (h : QAt w g m q) (hk : Only (fun _ => False) w w') : QAt w' g m q := h.only hk (fun h => h) (fun h => h)
theorem QAt.set {w : World} {g m : Nat} {q q' : QS} (h : QAt w g m q) (i : Nat) (v : Value) (hc : (q.cells m).setIfInBounds i v = q'.cells m) (hA : q'.A = q.A) : QAt (w.setCell ⟨g, i, none⟩ v) g m q' := by
  have hk := (Only.refl (fun k => k = g) w).setCell ⟨g, i, none⟩ v (fun _ => rfl)
  refine ⟨by rw [← hc]; exact blk_set h.cell i v, ?_⟩
  rw [hA]; exact h.amap.only hk (map_cells h.amap h.cell)
theorem QAt.lt {w : World} {g m : Nat} {q : QS} (h : QAt w g m q) : g < w.heap.size ∧ m < w.heap.size := ⟨heap_lt h.cell, h.amap.lt⟩

theorem QAt.c0 {w : World} {g m : Nat} {q : QS} (h : QAt w g m q) : w.cell? ⟨g, 0, none⟩ = some (.int .i64 q.next) := (blk_cell h.cell 0).trans rfl
theorem QAt.c1 {w : World} {g m : Nat} {q : QS} (h : QAt w g m q) : w.cell? ⟨g, 1, none⟩ = some (.int .i64 q.room) := (blk_cell h.cell 1).trans rfl
theorem QAt.c2 {w : World} {g m : Nat} {q : QS} (h : QAt w g m q) : w.cell? ⟨g, 2, none⟩ = some (.string q.s) := (blk_cell h.cell 2).trans rfl
theorem QAt.c3 {w : World} {g m : Nat} {q : QS} (h : QAt w g m q) : w.cell? ⟨g, 3, none⟩ = some (.map (some m)) := (blk_cell h.cell 3).trans rfl

theorem qnew (first room : Int) (w : World) (h0 : 0 ≤ first) (h1 : first < 4294967296) (r0 : 1 ≤ room) (r1 : room ≤ 65536) :
    Calls Try.prog 7 #[.int .i64 first, .int .i64 room] w fun e w' => e = .returned (.tuple #[.pointer (some ⟨w.heap.size + 1, 0, none⟩), .int .i64 0]) ∧ QAt w' (w.heap.size + 1) w.heap.size ⟨first, room, ⟨#[]⟩, []⟩ ∧ Only (fun _ => False) w w' := by
  have hmm := @run_makeMap Try.prog
  go_enter Try.func7, Try.ntmps7
  go_wp2_with fail
  refine (check_ok first _ h0 h1).mono ?_
  rintro e _ ⟨rfl, rfl⟩
  go_wp2_with fail
  go_ret2
  exact ⟨rfl, ⟨blk_new2 w _ _, (MapI.made w).at (Below.heap_alloc _ _ _ (by simp))⟩, ((Only.refl _ w).alloc _).alloc _⟩

theorem qnext (w : World) (g m : Nat) (q : QS) (h : QAt w g m q) : Calls Try.prog 14 #[.pointer (some ⟨g, 0, none⟩)] w fun e w' => e = .returned (.int .i64 q.next) ∧ w = w' := by
  have x0 := h.c0
  clear h
  go_enter Try.func14, Try.ntmps14
  go_wp2_with fail
  go_ret
  exact ⟨rfl, rfl⟩

theorem qwindow (w : World) (g m : Nat) (q : QS) (h : QAt w g m q) (hr : q.s.size ≤ q.room) (h1 : q.room ≤ 65536) : Calls Try.prog 15 #[.pointer (some ⟨g, 0, none⟩)] w fun e w' => e = .returned (.int .i64 (q.room - q.s.size)) ∧ ∃ n, w' = w.drewN n := by
  have x1 := h.c1
  have x2 := h.c2
  clear h
  go_enter Try.func15, Try.ntmps15
  go_wp2_with fail
  go_quiet (fail)
  go_wp2_with fail
  go_ret
  exact ⟨rfl, _, rfl⟩

theorem qready (w : World) (g m : Nat) (q : QS) (h : QAt w g m q) : Calls Try.prog 18 #[.pointer (some ⟨g, 0, none⟩)] w fun e w' => e = .returned (.int .i64 q.s.size) ∧ w = w' := by
  have x2 := h.c2
  clear h
  go_enter Try.func18, Try.ntmps18
  go_wp2_with fail
  go_ret
  exact ⟨rfl, rfl⟩

/-- How many bytes are read. -/
def QS.many (q : QS) (most : Int) : Nat := (mx 0 (mn most q.s.size)).toNat
def QS.read (q : QS) (most : Int) : QS := { q with s := q.s.extract (q.many most) q.s.size }

theorem many_le (q : QS) (most : Int) : q.many most ≤ q.s.size := by unfold QS.many mx mn; omega

theorem qread (w : World) (g m : Nat) (q : QS) (most : Int) (h : QAt w g m q) (hs : q.s.size ≤ 1099511627776) : Calls Try.prog 17 #[.pointer (some ⟨g, 0, none⟩), .int .i64 most] w fun e w' => e = .returned (.string (q.s.extract 0 (q.many most))) ∧ QAt w' g m (q.read most) ∧ Only (fun k => k = g) w w' := by
  have x2 := h.c2
  have xf := blk_free h.cell 2
  have H := Lib.hid h
  have m0 : 0 ≤ mx 0 (mn most q.s.size) := by unfold mx; omega
  have m1 : mx 0 (mn most q.s.size) ≤ (q.s.size : Int) := by unfold mx mn; omega
  clear h
  go_enter Try.func17, Try.ntmps17
  go_wp2_with fail
  go_ret
  exact ⟨rfl, H.out.set 2 _ rfl rfl, (Only.refl _ w).setCell _ _ (fun _ => rfl)⟩

/-! ### What Put makes -/

def lookA (A : List (Int × Nat)) (k : Int) : Option Nat := (A.find? (fun p => p.1 == k)).map (·.2)
def delA (A : List (Int × Nat)) (k : Int) : List (Int × Nat) := A.filter (fun p => p.1 != k)

theorem getI_encA (k : Int) : ∀ A : List (Int × Nat), getI (encA A) k = (lookA A k).map (fun c => Value.int .u8 (c : Nat))
  | [] => rfl
  | p :: A => by
    have ih := getI_encA k A
    unfold getI lookA encA at ih ⊢
    simp only [List.map_cons, List.find?_cons]
    cases hp : p.1 == k with
    | true => rfl
    | false => exact ih
theorem delI_encA (k : Int) (A : List (Int × Nat)) : delI (encA A) k = encA (delA A k) := by
  unfold delI encA delA
  rw [List.filter_map]
  rfl
theorem putI_encA (k : Int) (c : Nat) (A : List (Int × Nat)) (h : lookA A k = none) : putI (encA A) k (.int .u8 (c : Nat)) = encA (A ++ [(k, c)]) := by
  unfold putI
  rw [getI_encA, h]
  simp [encA]
theorem lookA_mem {A : List (Int × Nat)} {k : Int} {c : Nat} (h : lookA A k = some c) : (k, c) ∈ A := by
  unfold lookA at h
  cases hf : A.find? (fun p => p.1 == k) with
  | none => rw [hf] at h; cases h
  | some p =>
    rw [hf] at h
    have h1 := List.mem_of_find?_eq_some hf
    have h2 := List.find?_some hf
    simp only [beq_iff_eq] at h2
    simp only [Option.map_some, Option.some.injEq] at h
    rw [← h2, ← h]; exact h1
theorem delA_length {A : List (Int × Nat)} {k : Int} {c : Nat} (h : (k, c) ∈ A) : (delA A k).length < A.length :=
  List.length_filter_lt_length_iff_exists.2 ⟨_, h, by simp⟩

/-- A number that came first stays. -/
def addA (A : List (Int × Nat)) (k : Int) (c : Nat) : List (Int × Nat) := if (lookA A k).isSome then A else A ++ [(k, c)]
/-- So many bytes, the first one at k. -/
def putA (s : ByteArray) (at_ skip : Int) (A : List (Int × Nat)) : Nat → List (Int × Nat)
  | 0 => A
  | i + 1 => addA (putA s at_ skip A i) ((at_ + (skip + i)) % 4294967296) (s.data.toList.getD (skip.toNat + i) 0).toNat
theorem addA_length (A : List (Int × Nat)) (k : Int) (c : Nat) : (addA A k c).length ≤ A.length + 1 := by
  unfold addA
  split <;> simp
theorem putA_length (s : ByteArray) (at_ skip : Int) (A : List (Int × Nat)) : ∀ i, (putA s at_ skip A i).length ≤ A.length + i
  | 0 => Nat.le_refl _
  | i + 1 => by
    have h1 := addA_length (putA s at_ skip A i) ((at_ + (skip + i)) % 4294967296) (s.data.toList.getD (skip.toNat + i) 0).toNat
    have h2 := putA_length s at_ skip A i
    show (addA _ _ _).length ≤ _
    omega

/-- All that follows next without a gap: the next one behind it, what is left, the bytes. -/
def drain : Nat → Int → List (Int × Nat) → Int × List (Int × Nat) × List Nat
  | 0, k, A => (k, A, [])
  | f + 1, k, A =>
    match lookA A k with
    | none => (k, A, [])
    | some c => ((drain f ((k + 1) % 4294967296) (delA A k)).1, (drain f ((k + 1) % 4294967296) (delA A k)).2.1, c :: (drain f ((k + 1) % 4294967296) (delA A k)).2.2)

theorem drain_none {A : List (Int × Nat)} {k : Int} (h : lookA A k = none) : ∀ f, drain f k A = (k, A, [])
  | 0 => rfl
  | f + 1 => by unfold drain; rw [h]
/-- More rounds than there are bytes change nothing. -/
theorem drain_fuel : ∀ (f f' : Nat) (k : Int) (A : List (Int × Nat)), A.length ≤ f → A.length ≤ f' → drain f k A = drain f' k A
  | 0, f', k, A, h, _ => by
    have : A = [] := List.eq_nil_of_length_eq_zero (by omega)
    subst this
    exact (drain_none rfl f').symm
  | f + 1, 0, k, A, _, h => by
    have : A = [] := List.eq_nil_of_length_eq_zero (by omega)
    subst this
    exact drain_none rfl (f + 1)
  | f + 1, f' + 1, k, A, h, h' => by
    cases hl : lookA A k with
    | none => rw [drain_none hl, drain_none hl]
    | some c =>
      have hd := delA_length (lookA_mem hl)
      have := drain_fuel f f' ((k + 1) % 4294967296) (delA A k) (by omega) (by omega)
      unfold drain
      rw [hl, this]

def QS.drained (q : QS) : Int × List (Int × Nat) × List Nat := drain q.A.length q.next q.A
def bytesOf (l : List Nat) : ByteArray := strOfNums (l.map fun (c : Nat) => (c : Int))
/-- A queue behind a Put that is taken, and how many bytes came in order. -/
def QS.laid (q : QS) (at_ : Int) (s : ByteArray) : QS := { q with A := putA s at_ (cutSkip at_ s.size q.next (q.room - q.s.size)) q.A (cutKeep at_ s.size q.next (q.room - q.s.size)).toNat }
def QS.put (q : QS) (at_ : Int) (s : ByteArray) : QS := { q with next := (q.laid at_ s).drained.1, A := (q.laid at_ s).drained.2.1, s := q.s ++ bytesOf (q.laid at_ s).drained.2.2 }
def QS.came (q : QS) (at_ : Int) (s : ByteArray) : Nat := (q.laid at_ s).drained.2.2.length

end Go.Proofs.Ytbpmbmidjdhbpaa
