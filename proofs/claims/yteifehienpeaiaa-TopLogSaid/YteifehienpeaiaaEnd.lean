/-
  The contracts of an end of a channel: what it reads and what it sends.
  Conditions: numbers are of the kind int, the end's own in their bounds.
-/
import Derived.Test.YteifehienpeaiaaSorted
import Derived.Test.YteifehienpeaiaaLetText
import Derived.Test.YteifehienpeaiaaBackLaw
import Derived.StillTailTactics
set_option linter.unusedVariables false
set_option linter.unusedSimpArgs false
set_option maxRecDepth 100000
namespace Go.Proofs.Yteifehienpeaiaa
open Go.RowKit
attribute [local go_sem] max_ii min_ii min_iii

/-- A letter that is not acknowledged: its number, the block that it lies in, when it was sent last, its bytes. -/
structure Sn where
  key : Int
  blk : Nat
  at_ : Int
  data : ByteArray

/-- An end's state. -/
structure CS where
  room : Int
  wait : Int
  beat : Int
  epoch : Int
  role : Int
  mark : Int
  now : Int
  bat : Int
  last : Int
  acked : Int
  taken : Int
  hat : Int
  hrole : Int
  hmark : Int
  O : List Sn
  E : List (Int × ByteArray)

def CS.cells (s : CS) (mo me : Nat) : Array Value := #[.int .i64 s.room, .int .i64 s.wait, .int .i64 s.beat, .int .i64 s.epoch, .int .i64 s.role, .int .i64 s.mark, .int .i64 s.now, .int .i64 s.bat, .int .i64 s.last, .int .i64 s.acked, .int .i64 s.taken, .int .i64 s.hat, .int .i64 s.hrole, .int .i64 s.hmark, .map (some mo), .map (some me)]
def encO (O : List Sn) : List (Int × Value) := O.map fun x => (x.key, .pointer (some ⟨x.blk, 0, none⟩))
def encE (E : List (Int × ByteArray)) : List (Int × Value) := E.map fun p => (p.1, .string p.2)

/-- An end lies at g, its maps at mo and me, what it sent in blocks of their own. -/
structure EndAt (w : World) (g mo me : Nat) (s : CS) : Prop where
  cell : w.heap[g]? = some (.cells (s.cells mo me) 102 (0, 0))
  omap : MapI w mo (encO s.O)
  emap : MapI w me (encE s.E)
  sent : ∀ x ∈ s.O, w.heap[x.blk]? = some (.cells #[.int .i64 x.at_, .string x.data] 110 (0, 0))
  dis : mo ≠ me
  own : (s.O.map (·.blk)).Nodup
  far : ∀ x ∈ s.O, x.blk ≠ g

theorem map_cells {w : World} {b b' : Nat} {l : List (Int × Value)} {cs : Array Value} {T : TypeId} {fz : Nat × Nat} (h : MapI w b l) (h' : w.heap[b']? = some (.cells cs T fz)) : b ≠ b' := by
  obtain ⟨es, c, h1, _⟩ := h
  rintro rfl
  rw [h1] at h'
  cases h'

/-- The blocks of an end. -/
def Foot (g mo me : Nat) (O : List Sn) (k : Nat) : Prop := k = g ∨ k = mo ∨ k = me ∨ ∃ x ∈ O, k = x.blk

theorem EndAt.only {w w' : World} {g mo me : Nat} {s : CS} {S : Nat → Prop} (h : EndAt w g mo me s) (hk : Only S w w') (hn : ∀ k, Foot g mo me s.O k → ¬ S k) : EndAt w' g mo me s :=
  ⟨hk.at h.cell (hn _ (.inl rfl)), h.omap.only hk (hn _ (.inr (.inl rfl))), h.emap.only hk (hn _ (.inr (.inr (.inl rfl)))), fun x hx => hk.at (h.sent x hx) (hn _ (.inr (.inr (.inr ⟨x, hx, rfl⟩)))), h.dis, h.own, h.far⟩
theorem EndAt.keep {w w' : World} {g mo me : Nat} {s : CS} (h : EndAt w g mo me s) (hk : Only (fun _ => False) w w') : EndAt w' g mo me s := h.only hk (fun _ _ h => h)

theorem EndAt.lt {w : World} {g mo me : Nat} {s : CS} (h : EndAt w g mo me s) : ∀ k, Foot g mo me s.O k → k < w.heap.size := by
  rintro k (rfl | rfl | rfl | ⟨x, hx, rfl⟩)
  · exact heap_lt h.cell
  · exact h.omap.lt
  · exact h.emap.lt
  · exact heap_lt (h.sent x hx)

/-- A cell of the end's own block, stored. -/
theorem EndAt.set {w : World} {g mo me : Nat} {s s' : CS} (h : EndAt w g mo me s) (i : Nat) (v : Value) (hc : (s.cells mo me).setIfInBounds i v = s'.cells mo me) (hO : s'.O = s.O) (hE : s'.E = s.E) : EndAt (w.setCell ⟨g, i, none⟩ v) g mo me s' := by
  have hk := (Only.refl (fun k => k = g) w).setCell ⟨g, i, none⟩ v (fun _ => rfl)
  refine ⟨by rw [← hc]; exact blk_set h.cell i v, ?_, ?_, ?_, h.dis, ?_, ?_⟩
  · rw [hO]; exact h.omap.only hk (map_cells h.omap h.cell)
  · rw [hE]; exact h.emap.only hk (map_cells h.emap h.cell)
  · rw [hO]; intro x hx; exact hk.at (h.sent x hx) (h.far x hx)
  · rw [hO]; exact h.own
  · rw [hO]; exact h.far

/-- What an end's numbers are. -/
structure COk (s : CS) : Prop where
  r1 : 1 ≤ s.room
  r2 : s.room ≤ 64
  w1 : 1 ≤ s.wait
  w2 : s.wait ≤ 1048576
  b1 : 1 ≤ s.beat
  b2 : s.beat ≤ 1048576
  e0 : 0 ≤ s.epoch
  e1 : s.epoch ≤ 4294967295
  o0 : 0 ≤ s.role
  o1 : s.role ≤ 5
  m0 : 0 ≤ s.mark
  m1 : s.mark ≤ 4294967295
  n0 : 0 ≤ s.now
  n1 : s.now ≤ 1099511627776
  bt0 : 0 ≤ s.bat
  bt1 : s.bat ≤ 1099512676352
  t0 : 0 ≤ s.taken
  t1 : s.taken ≤ 4294967295
  at0 : ∀ x ∈ s.O, 0 ≤ x.at_ ∧ x.at_ ≤ 1099511627776
  key : ∀ x ∈ s.O, 1 ≤ x.key ∧ x.key ≤ 4294967295 ∧ x.data.size ≤ 4096
  len : s.O.length ≤ 64

/-! ### What is read -/

theorem numbers_any (w : World) (g mo me : Nat) (s : CS) (h : EndAt w g mo me s) : Calls Try.prog 26 #[.pointer (some ⟨g, 0, none⟩)] w fun e w' => e = .returned (.tuple #[.int .i64 s.last, .int .i64 s.acked, .int .i64 s.taken]) ∧ Only (fun _ => False) w w' := by
  have x8 := blk_cell h.cell 8
  have x9 := blk_cell h.cell 9
  have x10 := blk_cell h.cell 10
  simp only [CS.cells, List.getElem?_toArray, List.getElem?_cons_zero, List.getElem?_cons_succ] at x8 x9 x10
  clear h
  go_enter Try.func26, Try.ntmps26
  go_wp2_with fail
  go_quiet (fail)
  go_wp2_with fail
  go_ret3
  exact ⟨rfl, (Only.refl _ w).drewN _⟩

theorem heard_any (w : World) (g mo me : Nat) (s : CS) (h : EndAt w g mo me s) : Calls Try.prog 29 #[.pointer (some ⟨g, 0, none⟩)] w fun e w' => e = .returned (.tuple #[.int .i64 s.hat, .int .i64 s.hrole, .int .i64 s.hmark]) ∧ Only (fun _ => False) w w' := by
  have x11 := blk_cell h.cell 11
  have x12 := blk_cell h.cell 12
  have x13 := blk_cell h.cell 13
  simp only [CS.cells, List.getElem?_toArray, List.getElem?_cons_zero, List.getElem?_cons_succ] at x11 x12 x13
  clear h
  go_enter Try.func29, Try.ntmps29
  go_wp2_with fail
  go_quiet (fail)
  go_wp2_with fail
  go_ret3
  exact ⟨rfl, (Only.refl _ w).drewN _⟩

theorem epoch_any (w : World) (g mo me : Nat) (s : CS) (h : EndAt w g mo me s) : Calls Try.prog 32 #[.pointer (some ⟨g, 0, none⟩)] w fun e w' => e = .returned (.int .i64 s.epoch) ∧ w = w' := by
  have x3 := blk_cell h.cell 3
  simp only [CS.cells, List.getElem?_toArray, List.getElem?_cons_zero, List.getElem?_cons_succ] at x3
  clear h
  go_enter Try.func32, Try.ntmps32
  go_wp2_with fail
  go_ret
  exact ⟨rfl, rfl⟩

/-! ### The tick, the role, a letter -/

def CS.ticked (s : CS) (now : Int) : CS := { s with now := mx s.now (mn now 1099511627776) }

theorem tick_any (w : World) (g mo me : Nat) (s : CS) (now : Int) (h : EndAt w g mo me s) : Calls Try.prog 49 #[.pointer (some ⟨g, 0, none⟩), .int .i64 now] w fun e w' => e = .returned (.tuple #[]) ∧ EndAt w' g mo me (s.ticked now) ∧ Only (fun k => k = g) w w' := by
  have x6 := blk_cell h.cell 6
  simp only [CS.cells, List.getElem?_toArray, List.getElem?_cons_zero, List.getElem?_cons_succ] at x6
  have xf := blk_free h.cell 6
  have H := Lib.hid h
  clear h
  go_enter Try.func49, Try.ntmps49
  go_wp2_with fail
  go_end0
  exact ⟨rfl, H.out.set 6 _ rfl rfl rfl, (Only.refl _ w).setCell _ _ (fun _ => rfl)⟩

theorem role_any (w : World) (g mo me : Nat) (s : CS) (r : Int) (h : EndAt w g mo me s) (h0 : 0 ≤ r) (h1 : r ≤ 5) : Calls Try.prog 21 #[.pointer (some ⟨g, 0, none⟩), .int .i64 r] w fun e w' => e = .returned (.int .i64 0) ∧ EndAt w' g mo me { s with role := r } ∧ Only (fun k => k = g) w w' := by
  have x4 := blk_cell h.cell 4
  simp only [CS.cells, List.getElem?_toArray, List.getElem?_cons_zero, List.getElem?_cons_succ] at x4
  have xf := blk_free h.cell 4
  have H := Lib.hid h
  clear h
  have hr := Lib.hid (show roleB r = true from by unfold roleB; simp; omega)
  go_enter Try.func21, Try.ntmps21
  go_wp2_with fail
  refine (known_role r _).mono ?_
  rintro e w1 ⟨rfl, rfl⟩
  rw [hr.out]
  go_wp2_with fail
  go_ret
  exact ⟨rfl, H.out.set 4 _ rfl rfl rfl, (Only.refl _ w).setCell _ _ (fun _ => rfl)⟩

theorem role_bad (w : World) (g mo me : Nat) (s : CS) (r : Int) (h : EndAt w g mo me s) (h0 : ¬ (0 ≤ r ∧ r ≤ 5)) : Calls Try.prog 21 #[.pointer (some ⟨g, 0, none⟩), .int .i64 r] w fun e w' => e = .returned (.int .i64 1) ∧ w = w' := by
  have hr := Lib.hid (show roleB r = false from by unfold roleB; simp; omega)
  clear h
  go_enter Try.func21, Try.ntmps21
  go_wp2_with fail
  refine (known_role r _).mono ?_
  rintro e w1 ⟨rfl, rfl⟩
  rw [hr.out]
  go_wp2_with fail
  go_ret
  exact ⟨rfl, rfl⟩

/-- The letter that an end writes. -/
def CS.letter (s : CS) (k n : Int) (d : ByteArray) : ByteArray := letBytes k s.epoch s.role n s.taken d

theorem letter_any (w : World) (g mo me : Nat) (s : CS) (k n : Int) (d : ByteArray) (h : EndAt w g mo me s) (hl : letterB k s.epoch s.role n s.taken d = true) : Calls Try.prog 52 #[.pointer (some ⟨g, 0, none⟩), .int .i64 k, .int .i64 n, .string d] w fun e w' => e = .returned (.string (s.letter k n d)) ∧ Only (fun _ => False) w w' := by
  have x3 := blk_cell h.cell 3
  have x4 := blk_cell h.cell 4
  have x10 := blk_cell h.cell 10
  simp only [CS.cells, List.getElem?_toArray, List.getElem?_cons_zero, List.getElem?_cons_succ] at x3 x4 x10
  have HL := Lib.hid hl
  unfold CS.letter
  clear h hl
  go_enter Try.func52, Try.ntmps52
  go_wp2_with fail
  refine wp_region_still_tail 16 (by kernel_rfl) (by kernel_rfl) ?_
  simp only [List.take_succ_cons, List.take_zero, List.drop_succ_cons, List.drop_zero]
  change wpStill _ _ (w.drew) (fun a' => wpList _ _ _ _ _ (w.drew)) _ _
  replace x3 : w.drew.cell? ⟨g, 3, none⟩ = _ := x3
  replace x4 : w.drew.cell? ⟨g, 4, none⟩ = _ := x4
  replace x10 : w.drew.cell? ⟨g, 10, none⟩ = _ := x10
  have hO := (Only.refl (fun _ => False) w).drew
  generalize w.drew = w1 at x3 x4 x10 hO ⊢
  repeat still_step
  refine wpStill_nil ?_
  go_wp2_with fail
  refine (text_any k s.epoch s.role n s.taken d _ HL.out).mono ?_
  rintro e w2 ⟨rfl, hk⟩
  go_wp2_with fail
  go_ret
  exact ⟨rfl, hO.trans hk⟩

/-! ### Send -/

def CS.sent (s : CS) (d : ByteArray) (now : Int) (b : Nat) : CS := { s.ticked now with last := s.last + 1, O := s.O ++ [⟨s.last + 1, b, (s.ticked now).now, d⟩] }

theorem getI_encO_none {O : List Sn} {n : Int} (h : ∀ x ∈ O, x.key ≠ n) : getI (encO O) n = none := by
  refine getI_none fun p hp => ?_
  obtain ⟨x, hx, rfl⟩ := List.mem_map.1 hp
  exact h x hx

theorem putI_encO {O : List Sn} {n : Int} (h : ∀ x ∈ O, x.key ≠ n) (b : Nat) (a : Int) (d : ByteArray) : putI (encO O) n (.pointer (some ⟨b, 0, none⟩)) = encO (O ++ [⟨n, b, a, d⟩]) := by
  unfold putI
  rw [getI_encO_none h]
  simp [encO]

theorem und_mapO : Try.prog.underlying 99 = some (.map 3 108) := by kernel_rfl
theorem und_mapE : Try.prog.underlying 100 = some (.map 3 9) := by kernel_rfl
theorem zero_psent (w : World) : (zeroValue 108).run Try.prog w = .ok (.pointer none) w := by kernel_rfl
theorem zero_str (w : World) : (zeroValue 9).run Try.prog w = .ok (.string ⟨#[]⟩) w := by kernel_rfl

theorem send_long (w : World) (g : Nat) (d : ByteArray) (now : Int) (hd : 4096 < d.size) (hd2 : d.size ≤ 140737488355328) : Calls Try.prog 28 #[.pointer (some ⟨g, 0, none⟩), .string d, .int .i64 now] w fun e w' => e = .returned (.tuple #[.string ⟨#[]⟩, .int .i64 2]) ∧ w = w' := by
  have d1 : decide (4096 < (d.size : Int)) = true := decide_eq_true (by omega)
  go_enter Try.func28, Try.ntmps28
  go_wp2_with fail
  go_ret2
  exact ⟨rfl, rfl⟩

theorem send_full (w : World) (g mo me : Nat) (s : CS) (d : ByteArray) (now : Int) (h : EndAt w g mo me s) (hd : d.size ≤ 4096) (hf : s.room ≤ s.O.length) : Calls Try.prog 28 #[.pointer (some ⟨g, 0, none⟩), .string d, .int .i64 now] w fun e w' => e = .returned (.tuple #[.string ⟨#[]⟩, .int .i64 150]) ∧ Only (fun _ => False) w w' := by
  have x0 := blk_cell h.cell 0
  have x14 := blk_cell h.cell 14
  simp only [CS.cells, List.getElem?_toArray, List.getElem?_cons_zero, List.getElem?_cons_succ] at x0 x14
  have hm := h.omap
  clear h
  have d1 : decide (4096 < (d.size : Int)) = false := decide_eq_false (by omega)
  have hlen : (encO s.O).length = s.O.length := by unfold encO; rw [List.length_map]
  have hln := (hm.only (Only.refl (fun _ => False) w).drew (fun h => h)).len und_mapO 3
  rw [hlen] at hln
  have d2 : decide (s.room ≤ (s.O.length : Int)) = true := decide_eq_true hf
  clear hlen
  go_enter Try.func28, Try.ntmps28
  go_wp2_with fail
  refine wp_region_still_tail 11 (by kernel_rfl) (by kernel_rfl) ?_
  simp only [List.take_succ_cons, List.take_zero, List.drop_succ_cons, List.drop_zero]
  change wpStill _ _ (w.drew) (fun a' => wpList _ _ _ _ _ (w.drew)) _ _
  replace x0 : w.drew.cell? ⟨g, 0, none⟩ = _ := x0
  replace x14 : w.drew.cell? ⟨g, 14, none⟩ = _ := x14
  have hO := (Only.refl (fun _ => False) w).drew
  generalize w.drew = w1 at x0 x14 hln hO ⊢
  repeat still_step
  refine wpStill_nil ?_
  go_wp2_with fail
  go_ret2
  exact ⟨rfl, hO⟩

set_option maxHeartbeats 2000000 in
theorem send_any (w : World) (g mo me : Nat) (s : CS) (d : ByteArray) (now : Int) (h : EndAt w g mo me s) (ho : COk s) (hd : d.size ≤ 4096) (hf : s.O.length < s.room) (hl : 0 ≤ s.last ∧ s.last < 4294967295) (hkey : ∀ x ∈ s.O, x.key ≠ s.last + 1) : Calls Try.prog 28 #[.pointer (some ⟨g, 0, none⟩), .string d, .int .i64 now] w fun e w' => ∃ b, e = .returned (.tuple #[.string ((s.ticked now).letter 1 (s.last + 1) d), .int .i64 0]) ∧ EndAt w' g mo me (s.sent d now b) ∧ w.heap.size ≤ b ∧ Only (fun k => k = g ∨ k = mo) w w' := by
  have x0 := blk_cell h.cell 0
  have x14 := blk_cell h.cell 14
  simp only [CS.cells, List.getElem?_toArray, List.getElem?_cons_zero, List.getElem?_cons_succ] at x0 x14
  have hm := h.omap
  have d1 : decide (4096 < (d.size : Int)) = false := decide_eq_false (by omega)
  have hlen : (encO s.O).length = s.O.length := by unfold encO; rw [List.length_map]
  have hln := (hm.only (Only.refl (fun _ => False) w).drew (fun h => h)).len und_mapO 3
  rw [hlen] at hln
  have d2 : decide (s.room ≤ (s.O.length : Int)) = false := decide_eq_false (by omega)
  have H := Lib.hid h
  have HK := Lib.hid hkey
  have HO := Lib.hid ho
  have l0 := hl.1
  have l1 := hl.2
  clear hlen h hm hkey ho hl
  go_enter Try.func28, Try.ntmps28
  go_wp2_with fail
  refine wp_region_still_tail 11 (by kernel_rfl) (by kernel_rfl) ?_
  simp only [List.take_succ_cons, List.take_zero, List.drop_succ_cons, List.drop_zero]
  change wpStill _ _ (w.drew) (fun a' => wpList _ _ _ _ _ (w.drew)) _ _
  replace x0 : w.drew.cell? ⟨g, 0, none⟩ = _ := x0
  replace x14 : w.drew.cell? ⟨g, 14, none⟩ = _ := x14
  have hO := (Only.refl (fun k => k = g ∨ k = mo) w).drew
  replace H := Lib.hid (H.out.keep (Only.refl (fun _ => False) w).drew)
  have hsz : w.drew.heap.size = w.heap.size := rfl
  generalize w.drew = w0 at x0 x14 hln hO H hsz ⊢
  repeat still_step
  refine wpStill_nil ?_
  go_wp2_with fail
  refine (tick_any _ g mo me s now H.out).mono ?_
  rintro e w1 ⟨rfl, h1, hk1⟩
  replace hk1 : Only (fun k => k = g ∨ k = mo) w w1 := hO.then hk1 (fun _ _ e => .inl e)
  clear x0 x14 hln
  have x6 := blk_cell h1.cell 8
  have xf := blk_free h1.cell 8
  simp only [CS.cells, List.getElem?_toArray, List.getElem?_cons_zero, List.getElem?_cons_succ] at x6
  replace x6 : w1.cell? ⟨g, 8, none⟩ = some (.int .i64 s.last) := x6
  have h2 : EndAt (w1.setCell ⟨g, 8, none⟩ (.int .i64 (s.last + 1))) g mo me { s.ticked now with last := s.last + 1 } := h1.set 8 _ rfl rfl rfl
  replace hk1 : Only (fun k => k = g ∨ k = mo) w (w1.setCell ⟨g, 8, none⟩ (.int .i64 (s.last + 1))) := hk1.setCell ⟨g, 8, none⟩ _ (fun _ => .inl rfl)
  have hsz1 := hk1.size
  clear h1
  go_wp2_with fail
  generalize w1.setCell ⟨g, 8, none⟩ (.int .i64 (s.last + 1)) = w2 at h2 hk1 hsz1 ⊢
  clear x6 xf hsz hO w1
  have hn : (s.ticked now).now = mx s.now (mn now 1099511627776) := rfl
  generalize (s.ticked now).now = tn at hn
  have y6 : w2.cell? ⟨g, 6, none⟩ = some (.int .i64 tn) := by rw [hn]; exact (blk_cell h2.cell 6).trans rfl
  have y8 : w2.cell? ⟨g, 8, none⟩ = some (.int .i64 (s.last + 1)) := (blk_cell h2.cell 8).trans rfl
  have y14 : w2.cell? ⟨g, 14, none⟩ = some (.map (some mo)) := (blk_cell h2.cell 14).trans rfl
  have HN := Lib.hid hn
  clear hn
  have hka := ((Only.refl (fun _ => False) w2).alloc (.cells #[.int .i64 tn, .string d] 110)).drew
  have hm2 : MapI (w2.alloc (.cells #[.int .i64 tn, .string d] 110)).drew mo (encO s.O) := h2.omap.only hka (fun h => h)
  have hnb := blk_new w2 (.cells #[.int .i64 tn, .string d] 110)
  replace hnb : (w2.alloc (.cells #[.int .i64 tn, .string d] 110)).drew.heap[w2.heap.size]? = _ := hnb
  have v6 : (w2.alloc (.cells #[.int .i64 tn, .string d] 110)).drew.cell? ⟨g, 6, none⟩ = some (.int .i64 tn) := cell_only hka (fun h => h) y6
  replace v6 : (w2.alloc (.cells #[.int .i64 tn, .string d] 110)).cell? ⟨g, 6, none⟩ = some (.int .i64 tn) := v6
  have v8 : (w2.alloc (.cells #[.int .i64 tn, .string d] 110)).drew.cell? ⟨g, 8, none⟩ = some (.int .i64 (s.last + 1)) := cell_only hka (fun h => h) y8
  replace v8 : (w2.alloc (.cells #[.int .i64 tn, .string d] 110)).cell? ⟨g, 8, none⟩ = some (.int .i64 (s.last + 1)) := v8
  have v14 : (w2.alloc (.cells #[.int .i64 tn, .string d] 110)).drew.cell? ⟨g, 14, none⟩ = some (.map (some mo)) := cell_only hka (fun h => h) y14
  replace v14 : (w2.alloc (.cells #[.int .i64 tn, .string d] 110)).cell? ⟨g, 14, none⟩ = some (.map (some mo)) := v14
  obtain ⟨w3, hput, hm3, hk3, hz3⟩ := hm2.put und_mapO und_int (s.last + 1) (.pointer (some ⟨w2.heap.size, 0, none⟩))
  go_region
  have hmg : mo ≠ g := map_cells h2.omap h2.cell
  have hbs : w2.heap.size ≠ mo := by have := h2.omap.lt; omega
  rw [putI_encO HK.out w2.heap.size tn d] at hm3
  have h3 : EndAt w3 g mo me (s.sent d now w2.heap.size) := by
    have hlt := h2.lt
    have hall : ∀ k, Foot g mo me s.O k → k ≠ w2.heap.size := fun k hk e => by have := hlt k hk; omega
    refine ⟨hk3.at (hka.at h2.cell (fun h => h)) (fun e => hmg e.symm), ?_, (h2.emap.only hka (fun h => h)).only hk3 (fun e => h2.dis e.symm), ?_, h2.dis, ?_, ?_⟩
    · have : (s.sent d now w2.heap.size).O = s.O ++ [⟨s.last + 1, w2.heap.size, tn, d⟩] := by rw [HN.out]; rfl
      rw [this]; exact hm3
    · intro x hx
      rcases List.mem_append.1 hx with h1 | h1
      · have hc := h2.sent x h1
        exact hk3.at (hka.at hc (fun h => h)) (fun e => map_cells h2.omap hc e.symm)
      · simp only [List.mem_singleton] at h1
        subst h1
        have : hk3.at hnb hbs = hk3.at hnb hbs := rfl
        rw [show ((⟨s.last + 1, w2.heap.size, (s.ticked now).now, d⟩ : Sn).at_) = tn from HN.out.symm]
        exact hk3.at hnb hbs
    · show ((s.O ++ [(⟨s.last + 1, w2.heap.size, (s.ticked now).now, d⟩ : Sn)]).map (·.blk)).Nodup
      rw [List.map_append, List.nodup_append]
      refine ⟨h2.own, by simp, ?_⟩
      intro a ha b hb e
      simp only [List.map_cons, List.map_nil, List.mem_singleton] at hb
      obtain ⟨x, hx, rfl⟩ := List.mem_map.1 ha
      exact hall _ (.inr (.inr (.inr ⟨x, hx, rfl⟩))) (e.trans hb)
    · intro x hx
      rcases List.mem_append.1 hx with h1 | h1
      · exact h2.far x h1
      · simp only [List.mem_singleton] at h1
        subst h1
        exact fun e => hall g (.inl rfl) e.symm
  have hO3 : Only (fun k => k = g ∨ k = mo) w w3 := (hk1.then hka (fun _ _ h => h.elim)).then hk3 (fun _ _ e => .inr e)
  have z8 : w3.cell? ⟨g, 8, none⟩ = some (.int .i64 (s.last + 1)) := (blk_cell h3.cell 8).trans rfl
  have hb := hsz1
  generalize w2.heap.size = b at *
  clear hput hm3 hk3 hz3 hka hm2 hnb v6 v8 v14 y6 y8 y14 h2 hk1 hsz1
  have hL : letterB 1 s.epoch s.role (s.last + 1) s.taken d = true := by
    have ho := HO.out
    have := ho.e0; have := ho.e1; have := ho.o0; have := ho.o1; have := ho.t0; have := ho.t1
    unfold letterB wordB roleB
    simp only [Bool.and_eq_true, Bool.or_eq_true, decide_eq_true_eq, beq_iff_eq]
    refine ⟨⟨⟨⟨⟨?_, ?_⟩, ?_⟩, ?_⟩, ?_⟩, .inl ⟨trivial, ?_⟩⟩ <;> omega
  go_wp2_with fail
  refine (letter_any _ g mo me _ 1 (s.last + 1) d h3 hL).mono ?_
  rintro e w4 ⟨rfl, hk4⟩
  go_wp2_with fail
  go_ret2
  exact ⟨b, rfl, h3.keep hk4, hb, hO3.then hk4 (fun _ _ h => h.elim)⟩

/-! ### A new end -/

theorem end_new (w : World) (room wait beat epoch role mark now : Int) (hr : 1 ≤ room ∧ room ≤ 64) (hw : 1 ≤ wait ∧ wait ≤ 1048576) (hb : 1 ≤ beat ∧ beat ≤ 1048576) (he : 0 ≤ epoch ∧ epoch ≤ 4294967295) (hm : 0 ≤ mark ∧ mark ≤ 4294967295) (ho : 0 ≤ role ∧ role ≤ 5) (hn : 0 ≤ now ∧ now ≤ 1099511627776) :
    Calls Try.prog 20 #[.agg #[.int .i64 room, .int .i64 wait, .int .i64 beat], .int .i64 epoch, .int .i64 role, .int .i64 mark, .int .i64 now] w fun e w' => ∃ g mo me, e = .returned (.tuple #[.pointer (some ⟨g, 0, none⟩), .int .i64 0]) ∧ EndAt w' g mo me ⟨room, wait, beat, epoch, role, mark, now, now, 0, 0, 0, now, 0, 0, [], []⟩ ∧ w.heap.size ≤ g ∧ w.heap.size ≤ mo ∧ w.heap.size ≤ me ∧ Only (fun _ => False) w w' := by
  obtain ⟨hr1, hr2⟩ := hr
  obtain ⟨hw1, hw2⟩ := hw
  obtain ⟨hb1, hb2⟩ := hb
  obtain ⟨hn1, hn2⟩ := hn
  have he0 := Lib.hid (show wordB epoch = true from by unfold wordB; simp; omega)
  have hm0 := Lib.hid (show wordB mark = true from by unfold wordB; simp; omega)
  have ho0 := Lib.hid (show roleB role = true from by unfold roleB; simp; omega)
  have hmn : ¬ mn (mn room wait) beat < 1 := by unfold mn; omega
  have hmx : ¬ 1048576 < mx wait beat := by unfold mx; omega
  have d64 : decide (64 < room) = false := decide_eq_false (by omega)
  have hmm := @run_makeMap Try.prog
  clear he hm ho
  have hO := (Only.refl (fun _ => False) w).alloc (.cells #[.int .i64 room, .int .i64 wait, .int .i64 beat] 41)
  have hbox := blk_new w (.cells #[.int .i64 room, .int .i64 wait, .int .i64 beat] 41)
  have x0 := blk_cell hbox 0
  have x1 := blk_cell hbox 1
  have x2 := blk_cell hbox 2
  simp only [List.getElem?_toArray, List.getElem?_cons_zero, List.getElem?_cons_succ] at x0 x1 x2
  go_enter Try.func20, Try.ntmps20
  go_wp2_with fail
  refine (word_any epoch _).mono ?_
  rintro e _ ⟨rfl, rfl⟩
  rw [he0.out]
  go_wp2_with fail
  refine (word_any mark _).mono ?_
  rintro e _ ⟨rfl, rfl⟩
  rw [hm0.out]
  go_wp2_with fail
  refine (known_role role _).mono ?_
  rintro e _ ⟨rfl, rfl⟩
  rw [ho0.out]
  generalize w.alloc (.cells #[.int .i64 room, .int .i64 wait, .int .i64 beat] 41) = w1 at hO x0 x1 x2 ⊢
  go_wp2_with fail
  go_ret2
  have hm1 := MapI.made w1
  have hm2 := MapI.made (w1.alloc (.map #[] 0))
  rw [World.size_alloc] at hm2
  have hsz := hO.size
  have hk1 := (Only.refl (fun _ => False) (w1.alloc (.map #[] 0))).alloc (.map #[] 0)
  have hk2 := (Only.refl (fun _ => False) ((w1.alloc (.map #[] 0)).alloc (.map #[] 0))).alloc (.cells #[.int .i64 room, .int .i64 wait, .int .i64 beat, .int .i64 epoch, .int .i64 role, .int .i64 mark, .int .i64 now, .int .i64 now, .int .i64 0, .int .i64 0, .int .i64 0, .int .i64 now, .int .i64 0, .int .i64 0, .map (some w1.heap.size), .map (some (w1.heap.size + 1))] 102)
  have hc := blk_new ((w1.alloc (.map #[] 0)).alloc (.map #[] 0)) (.cells #[.int .i64 room, .int .i64 wait, .int .i64 beat, .int .i64 epoch, .int .i64 role, .int .i64 mark, .int .i64 now, .int .i64 now, .int .i64 0, .int .i64 0, .int .i64 0, .int .i64 now, .int .i64 0, .int .i64 0, .map (some w1.heap.size), .map (some (w1.heap.size + 1))] 102)
  rw [World.size_alloc, World.size_alloc] at hc
  exact ⟨w1.heap.size + 1 + 1, w1.heap.size, w1.heap.size + 1, rfl, ⟨hc, (hm1.only hk1 (fun h => h)).only hk2 (fun h => h), hm2.only hk2 (fun h => h), fun x hx => (by cases hx), by omega, List.nodup_nil, fun x hx => (by cases hx)⟩, by omega, by omega, by omega, ((hO.alloc _).alloc _).alloc _⟩

end Go.Proofs.Yteifehienpeaiaa
