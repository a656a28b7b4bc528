/-
  The contract of ask of package neigh, at a cache that has the address 10.
  Conditions: numbers are of the kind int.
-/
import Derived.Test.YthgkdfllddljcaaNei
import Derived.Test.YthgkdfllddljcaaArpToldC
set_option linter.unusedVariables false
set_option linter.unusedSimpArgs false
namespace Go.Proofs.Ythgkdfllddljcaa
open Go.RowKit

/-- A packet's five numbers lie at a block. -/
def arpCells (a : A) : Array Value := #[.int .i64 a.op, .int .i64 a.fm, .int .i64 a.fi, .int .i64 a.tm, .int .i64 a.ti]

theorem arp_set {w : World} {b : Nat} {x : A} (h : w.heap[b]? = some (.cells (arpCells x) 31 (0, 0))) (a : A) :
    (World.setCell (World.setCell (World.setCell (World.setCell (World.setCell w ⟨b, 0, none⟩ (.int .i64 a.op)) ⟨b, 1, none⟩ (.int .i64 a.fm)) ⟨b, 2, none⟩ (.int .i64 a.fi)) ⟨b, 3, none⟩ (.int .i64 a.tm)) ⟨b, 4, none⟩ (.int .i64 a.ti)).heap[b]? = some (.cells (arpCells a) 31 (0, 0)) :=
  (blk_set (blk_set (blk_set (blk_set (blk_set h 0 (.int .i64 a.op)) 1 (.int .i64 a.fm)) 2 (.int .i64 a.fi)) 3 (.int .i64 a.tm)) 4 (.int .i64 a.ti)).trans rfl

theorem arp_set_only (w : World) (b : Nat) (a : A) : Only (fun k => k = b) w
    (World.setCell (World.setCell (World.setCell (World.setCell (World.setCell w ⟨b, 0, none⟩ (.int .i64 a.op)) ⟨b, 1, none⟩ (.int .i64 a.fm)) ⟨b, 2, none⟩ (.int .i64 a.fi)) ⟨b, 3, none⟩ (.int .i64 a.tm)) ⟨b, 4, none⟩ (.int .i64 a.ti)) :=
  ((((((Only.refl (fun k => k = b) w).setCell _ _ (fun _ => rfl)).setCell _ _ (fun _ => rfl)).setCell _ _ (fun _ => rfl)).setCell _ _ (fun _ => rfl)).setCell _ _ (fun _ => rfl))

theorem arp_cells {w : World} {b : Nat} {a : A} (h : w.heap[b]? = some (.cells (arpCells a) 31 (0, 0))) :
    w.cell? ⟨b, 0, none⟩ = some (.int .i64 a.op) ∧ w.cell? ⟨b, 1, none⟩ = some (.int .i64 a.fm) ∧ w.cell? ⟨b, 2, none⟩ = some (.int .i64 a.fi) ∧ w.cell? ⟨b, 3, none⟩ = some (.int .i64 a.tm) ∧ w.cell? ⟨b, 4, none⟩ = some (.int .i64 a.ti) ∧
    w.frozen? ⟨b, 0, none⟩ = false ∧ w.frozen? ⟨b, 1, none⟩ = false ∧ w.frozen? ⟨b, 2, none⟩ = false ∧ w.frozen? ⟨b, 3, none⟩ = false ∧ w.frozen? ⟨b, 4, none⟩ = false :=
  ⟨blk_cell h 0, blk_cell h 1, blk_cell h 2, blk_cell h 3, blk_cell h 4, blk_free h 0, blk_free h 1, blk_free h 2, blk_free h 3, blk_free h 4⟩

set_option maxHeartbeats 2000000 in
theorem nask_any (w : World) (g c d : Nat) (s : NS) (ip : Int) (h : NAt w g c d s) (hm : s.mine = true) :
    Calls Try.prog 32 #[.pointer (some ⟨g, 0, none⟩), .int .i64 ip] w fun e w' => e = .returned (.agg (arpCells (amade 1 s.mac 10 0 ip))) ∧ Only (fun _ => False) w w' := by
  obtain ⟨b, cap, cur, hown, hc1, hb, hc0⟩ := h.own.yes hm
  have x0 := blk_cell h.cell 0
  have x6 := blk_cell h.cell 6
  have xb := blk_cell hb 0
  rw [hc0] at xb
  simp only [NS.cells, List.getElem?_toArray, List.getElem?_cons_zero, List.getElem?_cons_succ] at x0 x6
  rw [hown] at x6
  have hz := blk_new w (.cells #[.int .i64 0, .int .i64 0, .int .i64 0, .int .i64 0, .int .i64 0] 31)
  have hk0 := (Only.refl (fun _ => False) w).alloc (.cells #[.int .i64 0, .int .i64 0, .int .i64 0, .int .i64 0, .int .i64 0] 31)
  have y0 := cell_only hk0 (fun h => h) x0
  have y6 := cell_only hk0 (fun h => h) x6
  have yb := cell_only hk0 (fun h => h) xb
  clear x0 x6 xb h hb
  go_enter Try.func32, Try.ntmps32
  go_wp2_with fail
  generalize hP : w.heap.size = p at *
  generalize w.alloc (.cells #[.int .i64 0, .int .i64 0, .int .i64 0, .int .i64 0, .int .i64 0] 31) = w1 at *
  go_wp2_with fail
  refine (ask_any s.mac 10 ip _).mono ?_
  rintro e w2 ⟨rfl, hk2⟩
  generalize hr : amade 1 s.mac 10 0 ip = r at *
  generalize arC 1 s.mac 10 0 ip = q at *
  replace hz : w2.heap[p]? = some (.cells (arpCells ⟨0, 0, 0, 0, 0⟩) 31 (0, 0)) := hk2.at hz (fun h => h)
  have hO2 := hk0.then hk2 (fun _ _ h => h)
  have hl := heap_lt hz
  obtain ⟨z0, z1, z2, z3, z4, q0, q1, q2, q3, q4⟩ := arp_cells hz
  go_wp2_with fail
  have hs := arp_set hz r
  have hk3 := arp_set_only w2 p r
  have hO4 := hO2.then hk3 (fun i hi e => by omega)
  generalize (World.setCell (World.setCell (World.setCell (World.setCell (World.setCell w2 ⟨p, 0, none⟩ (.int .i64 r.op)) ⟨p, 1, none⟩ (.int .i64 r.fm)) ⟨p, 2, none⟩ (.int .i64 r.fi)) ⟨p, 3, none⟩ (.int .i64 r.tm)) ⟨p, 4, none⟩ (.int .i64 r.ti)) = wz at hs hO4 ⊢
  have hO5 := hO4.alloc (.cells #[.int .i64 r.op, .int .i64 r.fm, .int .i64 r.fi, .int .i64 r.tm, .int .i64 r.ti] 31)
  have hs5 := blk_alloc hs (.cells #[.int .i64 r.op, .int .i64 r.fm, .int .i64 r.fi, .int .i64 r.tm, .int .i64 r.ti] 31)
  generalize wz.alloc (.cells #[.int .i64 r.op, .int .i64 r.fm, .int .i64 r.fi, .int .i64 r.tm, .int .i64 r.ti] 31) = wy at hs5 hO5 ⊢
  obtain ⟨v0, v1, v2, v3, v4, _⟩ := arp_cells hs5
  refine bodyPost_ret (v := .agg (arpCells r)) (by simp [results, Try.results32, go_sem, v0, v1, v2, v3, v4, arpCells]) rfl ⟨by rw [hr], hO5⟩

end Go.Proofs.Ythgkdfllddljcaa
