/-
  NeighOnce: the law's own two maps in memory, and the rows of numbers of the one.
  Conditions: numbers are of the kind int.
-/
import Derived.Test.YthgkdfllddljcaaOnceLaw
set_option linter.unusedVariables false
set_option linter.unusedSimpArgs false
set_option maxRecDepth 100000
namespace Go.Proofs.Ythgkdfllddljcaa
open Go.RowKit

theorem und_mapii : Try.prog.underlying 44 = some (.map 3 3) := by kernel_rfl
theorem und_mapis : Try.prog.underlying 45 = some (.map 3 52) := by kernel_rfl
theorem zero_int (w : World) : (zeroValue 3).run Try.prog w = .ok (.int .i64 0) w := by kernel_rfl
theorem zero_ints (w : World) : (zeroValue 52).run Try.prog w = .ok (.slice none 0 0) w := by kernel_rfl

def rowOf (Wl : List (Int × Value)) (a : Int) : Value := (getI Wl a).getD (.slice none 0 0)

structure LInv (w : World) (B m1 m2 : Nat) (T Wl : List (Int × Value)) (L : Int → List Int) : Prop where
  told : MapI w m1 T
  waits : MapI w m2 Wl
  dis : m1 ≠ m2
  rows : ∀ a, IRow w (rowOf Wl a) (L a)
  base : ∀ a b, (rowOf Wl a).ownBlock = some b → B ≤ b
  apart : ∀ a a' b, (rowOf Wl a).ownBlock = some b → (rowOf Wl a').ownBlock = some b → a = a'

theorem LInv.only {w w' : World} {B m1 m2 : Nat} {T Wl : List (Int × Value)} {L : Int → List Int} {S : Nat → Prop} (h : LInv w B m1 m2 T Wl L) (hk : Only S w w') (h1 : ¬ S m1) (h2 : ¬ S m2) (h3 : ∀ a b, (rowOf Wl a).ownBlock = some b → ¬ S b) : LInv w' B m1 m2 T Wl L :=
  ⟨h.told.only hk h1, h.waits.only hk h2, h.dis, fun a => (h.rows a).only hk (h3 a), h.base, h.apart⟩
theorem LInv.keep {w w' : World} {B m1 m2 : Nat} {T Wl : List (Int × Value)} {L : Int → List Int} (h : LInv w B m1 m2 T Wl L) (hk : Only (fun _ => False) w w') : LInv w' B m1 m2 T Wl L := h.only hk (fun h => h) (fun h => h) (fun _ _ _ h => h)

/-- Behind what turns but the cache. -/
theorem LInv.cache {w w' : World} {B m1 m2 : Nat} {T Wl : List (Int × Value)} {L : Int → List Int} (h : LInv w B m1 m2 T Wl L) {g c d : Nat} {s : NS} (hn : NAt w g c d s) (hm : s.mine = true) (hown : ∀ b, s.own.ownBlock = some b → b < B) (h1 : c ≠ m1 ∧ d ≠ m1 ∧ c ≠ m2 ∧ d ≠ m2) (hk : Only (NFoot g c d s) w w') : LInv w' B m1 m2 T Wl L := by
  obtain ⟨ob, ocap, ocur, e1, e2, e3, e4⟩ := hn.own.yes hm
  have hmap : ∀ m l, MapI w m l → c ≠ m → d ≠ m → ¬ NFoot g c d s m := by
    rintro m l hml hc hd (rfl | rfl | rfl | hb | ⟨p, hp, rfl | hb⟩)
    · exact map_ne hn.cell hml rfl
    · exact hc rfl
    · exact hd rfl
    · rw [e1] at hb
      cases hb
      exact map_ne e3 hml rfl
    · exact map_ne (hn.ask p hp) hml rfl
    · obtain ⟨cur, h3⟩ := row_blk (hn.row p hp) hb
      exact map_ne h3 hml rfl
  refine h.only hk (hmap _ _ h.told h1.1 h1.2.1) (hmap _ _ h.waits h1.2.2.1 h1.2.2.2) fun a b hb => ?_
  obtain ⟨cur, hcur⟩ := (h.rows a).blk hb
  have hB := h.base a b hb
  rintro (rfl | rfl | rfl | hb' | ⟨p, hp, rfl | hb'⟩)
  · exact cells_ne hcur hn.cell (by decide) rfl
  · exact map_ne hcur hn.kmap rfl
  · exact map_ne hcur hn.amap rfl
  · have := hown b hb'; omega
  · exact cells_ne hcur (hn.ask p hp) (by decide) rfl
  · obtain ⟨cur', h3⟩ := row_blk (hn.row p hp) hb'
    exact cells_ne hcur h3 (by decide) rfl

/-- The cache behind what turns but the law's. -/
theorem NAt.beside {w w' : World} {g c d : Nat} {s : NS} (hn : NAt w g c d s) (hm : s.mine = true) {B : Nat} (hown : ∀ b, s.own.ownBlock = some b → b < B) {S : Nat → Prop} (hk : Only S w w') (hS : ∀ b, S b → (∃ l, MapI w b l ∧ b ≠ c ∧ b ≠ d) ∨ (B ≤ b ∧ ∃ cur, w.heap[b]? = some (.cells cur 3 (0, 0)))) : NAt w' g c d s := by
  obtain ⟨ob, ocap, ocur, e1, e2, e3, e4⟩ := hn.own.yes hm
  refine hn.only hk fun k hf hs => ?_
  rcases hS k hs with ⟨l, hml, hc, hd⟩ | ⟨hB, cur, hcur⟩
  · rcases hf with rfl | rfl | rfl | hb | ⟨p, hp, rfl | hb⟩
    · exact map_ne hn.cell hml rfl
    · exact hc rfl
    · exact hd rfl
    · rw [e1] at hb
      cases hb
      exact map_ne e3 hml rfl
    · exact map_ne (hn.ask p hp) hml rfl
    · obtain ⟨cur, h3⟩ := row_blk (hn.row p hp) hb
      exact map_ne h3 hml rfl
  · rcases hf with rfl | rfl | rfl | hb' | ⟨p, hp, rfl | hb'⟩
    · exact cells_ne hcur hn.cell (by decide) rfl
    · exact map_ne hcur hn.kmap rfl
    · exact map_ne hcur hn.amap rfl
    · have := hown k hb'; omega
    · exact cells_ne hcur (hn.ask p hp) (by decide) rfl
    · obtain ⟨cur', h3⟩ := row_blk (hn.row p hp) hb'
      exact cells_ne hcur h3 (by decide) rfl

theorem LInv.toldTo {w w' : World} {B m1 m2 : Nat} {T T' Wl : List (Int × Value)} {L : Int → List Int} (h : LInv w B m1 m2 T Wl L) (hk : Only (fun k => k = m1) w w') (hm : MapI w' m1 T') : LInv w' B m1 m2 T' Wl L :=
  ⟨hm, h.waits.only hk (fun e => h.dis e.symm), h.dis, fun a => (h.rows a).only hk (fun b hb e => by
    obtain ⟨cur, hcur⟩ := (h.rows a).blk hb
    exact map_ne hcur h.told e), h.base, h.apart⟩

theorem rowOf_put (Wl : List (Int × Value)) (a b : Int) (v : Value) : rowOf (putI Wl a v) b = if b = a then v else rowOf Wl b := by
  unfold rowOf
  by_cases e : b = a
  · subst e; rw [getI_put_same, if_pos rfl]; rfl
  · rw [getI_put_other _ _ _ _ e, if_neg e]

/-- One row turned. -/
theorem LInv.row {w w1 w2 : World} {B m1 m2 : Nat} {T Wl : List (Int × Value)} {L L' : Int → List Int} (h : LInv w B m1 m2 T Wl L) (hB : B ≤ w.heap.size) (a : Int) (v : Value) (hk1 : Only (fun k => some k = (rowOf Wl a).ownBlock) w w1) (hr : IRow w1 v (L' a)) (hL : ∀ b, b ≠ a → L' b = L b)
    (hv : ∀ b, v.ownBlock = some b → (rowOf Wl a).ownBlock = some b ∨ w.heap.size ≤ b) (hk2 : Only (fun k => k = m2) w1 w2) (hm : MapI w2 m2 (putI Wl a v)) : LInv w2 B m1 m2 T (putI Wl a v) L' := by
  have hmm : ∀ m l, MapI w m l → ¬ some m = (rowOf Wl a).ownBlock := fun m l hml e => by
    obtain ⟨cur, hcur⟩ := (h.rows a).blk e.symm
    exact map_ne hcur hml rfl
  have hlt : ∀ x b, (rowOf Wl x).ownBlock = some b → b < w.heap.size := fun x b hb => by
    obtain ⟨cur, hcur⟩ := (h.rows x).blk hb
    exact heap_lt hcur
  have hw1 : MapI w1 m2 Wl := h.waits.only hk1 (hmm _ _ h.waits)
  refine ⟨(h.told.only hk1 (hmm _ _ h.told)).only hk2 h.dis, hm, h.dis, fun b => ?_, fun b k hb => ?_, fun x y k hx hy => ?_⟩
  · rw [rowOf_put]
    by_cases e : b = a
    · rw [if_pos e, e]
      refine hr.only hk2 (fun k hk e' => ?_)
      obtain ⟨cur, hcur⟩ := hr.blk hk
      exact map_ne hcur hw1 e'
    · rw [if_neg e, hL b e]
      have h1 : IRow w1 (rowOf Wl b) (L b) := (h.rows b).only hk1 (fun k hk e' => e (h.apart b a k hk e'.symm))
      refine h1.only hk2 (fun k hk e' => ?_)
      obtain ⟨cur, hcur⟩ := h1.blk hk
      exact map_ne hcur hw1 e'
  · rw [rowOf_put] at hb
    split at hb
    · rcases hv k hb with h1 | h1
      · exact h.base a k h1
      · omega
    · exact h.base b k hb
  · rw [rowOf_put] at hx hy
    split at hx
    · rename_i ex
      split at hy
      · rename_i ey; rw [ex, ey]
      · exfalso
        rename_i ey
        rcases hv k hx with h1 | h1
        · exact ey (h.apart y a k hy h1)
        · have := hlt y k hy; omega
    · rename_i ex
      split at hy
      · exfalso
        rcases hv k hy with h1 | h1
        · exact ex (h.apart x a k hx h1)
        · have := hlt x k hx; omega
      · exact h.apart x y k hx hy

/-- What a row is without its first number: 's[1:]'. -/
theorem run_tail (b off n cap : Nat) (h1 : n + 1 ≤ cap) (w : World) : (Instr.sliceAt 52 (.slice (some ⟨b, off, none⟩) (n + 1) cap) (some (.int .i64 1)) none none).run Try.prog w = .ok (.slice (if cap = 1 then some ⟨b, off, none⟩ else some ⟨b, off + 1, none⟩) n (cap - 1)) w := by
  have hs : ∀ w, (sizeOf (Try.prog.elem 52)).run Try.prog w = .ok 1 w := fun w => by kernel_rfl
  have hu : Try.prog.underlying 52 = some (.slice (Try.prog.elem 52)) := by kernel_rfl
  rw [run_sliceAt_slice w _ _ _ _ _ hu, run_slice_l w _ _ _ _ hu .i64 1 (by omega) (by omega), hs]
  simp only [Result.andThen, sliced]
  congr 2

theorem build_pk (w : World) (to k : Int) : (Instr.build 47 #[(0, .int .i64 10), (1, .int .i64 to), (2, .int .i64 9), (4, .int .i64 k)]).run Try.prog w = .ok (.agg #[.int .i64 10, .int .i64 to, .int .i64 9, .int .i64 0, .int .i64 k, .int .i64 0, .bool false, .bool false, .string ⟨#[]⟩, .string ⟨#[]⟩]) w := by kernel_rfl
section
variable (w : World) {ops : Array Oper} {rest : List Oper} {o : Oper} {a : Act} {Q : Exit → Act → World → Prop}
theorem wpList_build_pk (hg : o.guard = none) (x y : Operand) (hop : o.op = Op.build 47 #[(0, .const (.int .i64 10)), (1, x), (2, .const (.int .i64 9)), (4, y)]) (to k : Int) (hx : a.eval x = .int .i64 to) (hy : a.eval y = .int .i64 k)
    (h : wpList Try.prog ops Q rest (a.put o.dst (.agg #[.int .i64 10, .int .i64 to, .int .i64 9, .int .i64 0, .int .i64 k, .int .i64 0, .bool false, .bool false, .string ⟨#[]⟩, .string ⟨#[]⟩])) w) : wpList Try.prog ops Q (o :: rest) a w := by
  refine wpList_plain hg fun K hK => ?_
  unfold Oper.wp
  have hr : (execOp a.eval o).run Try.prog w = .ok (.value (.agg #[.int .i64 10, .int .i64 to, .int .i64 9, .int .i64 0, .int .i64 k, .int .i64 0, .bool false, .bool false, .string ⟨#[]⟩, .string ⟨#[]⟩])) w := by
    unfold execOp
    have hb := build_pk w to k
    have hc1 : a.eval (.const (.int .i64 10)) = .int .i64 10 := rfl
    have hc2 : a.eval (.const (.int .i64 9)) = .int .i64 9 := rfl
    simp only [hop, List.map_toArray, List.map_cons, List.map_nil, hx, hy, hc1, hc2, Sem.run_bind, hb, Result.andThen_ok, Sem.run_pure]
  rw [hr]
  exact hK _ _ h
end

end Go.Proofs.Ythgkdfllddljcaa
